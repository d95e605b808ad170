/- The parts RandBack, RandOrder, RandLives, BigA, BigB, Words, BigC, BigD, RefK of the proof, in one text. -/
import Derived.Deep.QuietTactic
import Derived.BigQuiet
import Derived.Deep.RegionWith
import Derived.Stop.RegionWithIn
import Derived.Test.YtmpkaimhjdkheaaGreatDoorB5
set_option linter.unusedSimpArgs false
set_option linter.unusedVariables false

namespace Go.Proofs.YtmpkaimhjdkheaaGreatDoor
open Go.RowKit Go.Shelf Go.Mem Go.Pure

theorem i64_xor_nat (a b : Nat) (ha : a < 9223372036854775808) (hb : b < 9223372036854775808) : bits .xor .i64 (a : Int) (b : Int) = ((a ^^^ b : Nat) : Int) := by
  show IntKind.i64.wrap ((BitVec.ofInt 64 (a : Int) ^^^ BitVec.ofInt 64 (b : Int)).toNat : Int) = _
  rw [BitVec.ofInt_natCast, BitVec.ofInt_natCast, BitVec.toNat_xor, BitVec.toNat_ofNat, BitVec.toNat_ofNat, Nat.mod_eq_of_lt (by omega), Nat.mod_eq_of_lt (by omega), IntKind.wrap_i64]
  have := Nat.xor_lt_two_pow (n := 63) ha hb
  omega
theorem i64_and_nat (a b : Nat) (ha : a < 9223372036854775808) (hb : b < 9223372036854775808) : bits .and .i64 (a : Int) (b : Int) = ((a &&& b : Nat) : Int) := by
  show IntKind.i64.wrap ((BitVec.ofInt 64 (a : Int) &&& BitVec.ofInt 64 (b : Int)).toNat : Int) = _
  rw [BitVec.ofInt_natCast, BitVec.ofInt_natCast, BitVec.toNat_and, BitVec.toNat_ofNat, BitVec.toNat_ofNat, Nat.mod_eq_of_lt (by omega), Nat.mod_eq_of_lt (by omega), IntKind.wrap_i64]
  have := Nat.and_lt_two_pow (n := 63) a hb
  omega
theorem i64_or_nat (a b : Nat) (ha : a < 9223372036854775808) (hb : b < 9223372036854775808) : bits .or .i64 (a : Int) (b : Int) = ((a ||| b : Nat) : Int) := by
  show IntKind.i64.wrap ((BitVec.ofInt 64 (a : Int) ||| BitVec.ofInt 64 (b : Int)).toNat : Int) = _
  rw [BitVec.ofInt_natCast, BitVec.ofInt_natCast, BitVec.toNat_or, BitVec.toNat_ofNat, BitVec.toNat_ofNat, Nat.mod_eq_of_lt (by omega), Nat.mod_eq_of_lt (by omega), IntKind.wrap_i64]
  have := Nat.or_lt_two_pow (n := 63) ha hb
  omega
theorem side_le {h : Nat} (hh : h ≤ 20) : 2 ^ h ≤ 1048576 := Nat.le_trans (Nat.pow_le_pow_right (by omega) hh) (by decide)
theorem left_eq (h k : Nat) : (k : Int) / 2 ^ h = ((halves h k).1 : Int) := by
  have e : (2 : Int) ^ h = ((2 ^ h : Nat) : Int) := by simp
  rw [e]
  exact (Int.natCast_ediv k (2 ^ h)).symm
theorem right_eq {h k : Nat} (hh : h ≤ 20) (hk : k < 9223372036854775808) : bits .and .i64 (k : Int) (wrap64 (wrap64 (2 ^ h) - 1)) = ((halves h k).2 : Int) := by
  have h1 := side_le hh
  have h0 : 0 < 2 ^ h := Nat.pow_pos (by omega)
  have e : (2 : Int) ^ h = ((2 ^ h : Nat) : Int) := by simp
  have e2 : wrap64 (wrap64 (2 ^ h) - 1) = ((2 ^ h - 1 : Nat) : Int) := by
    rw [e]
    unfold wrap64
    omega
  rw [e2, i64_and_nat _ _ hk (by omega), Nat.and_two_pow_sub_one_eq_mod]
  rfl
theorem join_eq {h l r : Nat} (hh : h ≤ 20) (hl : l < 2 ^ h) (hr : r < 2 ^ h) : bits .or .i64 (wrap64 ((l : Int) * 2 ^ h)) (r : Int) = (joinH h (l, r) : Int) := by
  have h1 := side_le hh
  have e : (l : Int) * (2 : Int) ^ h = ((l * 2 ^ h : Nat) : Int) := by simp
  have hb : l * 2 ^ h ≤ 1048576 * 1048576 := Nat.mul_le_mul (by omega) h1
  have e2 : wrap64 ((l : Int) * 2 ^ h) = ((l * 2 ^ h : Nat) : Int) := by
    rw [e]
    unfold wrap64
    omega
  rw [e2, i64_or_nat _ _ (by omega) (by omega)]
  have := Nat.shiftLeft_add_eq_or_of_lt hr l
  rw [Nat.shiftLeft_eq] at this
  rw [← this]
  rfl

set_option maxHeartbeats 2000000 in
set_option maxRecDepth 100000 in
theorem back_any (seed : Int) (h k : Nat) (hh : h ≤ 20) (hk : k < 2 ^ h * 2 ^ h) (w : World) : Calls Tryz.prog 98 #[.agg #[.int .u64 seed, .int .i64 h], .int .i64 k] w fun e w' => e = .returned (.int .i64 (backN (partN seed h) h k)) ∧ New w w' := by
  have hk40 : k < 1099511627776 := Nat.lt_of_lt_of_le hk (by rw [← Nat.pow_add]; exact Nat.le_trans (Nat.pow_le_pow_right (by omega) (show h + h ≤ 40 by omega)) (by decide))
  have HK := Lib.hid hk
  clear hk
  go_enter Tryz.func98, Tryz.ntmps98
  go_wp2_with fail
  go_quiet (fail)
  rw [left_eq, right_eq hh (by omega)]
  have hlt := halves_lt HK.out
  obtain ⟨l0, r0, hx0⟩ : ∃ l r, halves h k = (l, r) := ⟨_, _, rfl⟩
  rw [hx0] at hlt ⊢
  have hl0 : l0 < 2 ^ h := hlt.1
  have hr0 : r0 < 2 ^ h := hlt.2
  have hside := side_le hh
  have hn1 : New w ((w.alloc (.cells #[.int .u64 seed, .int .i64 h] 142)).drewN nq) := ((Chg.refl _ w).alloc _).drewN _
  have hb1 : Blk ((w.alloc (.cells #[.int .u64 seed, .int .i64 h] 142)).drewN nq) w.heap.size 142 #[.int .u64 seed, .int .i64 h] := (Blk.new _ _ _).drewN _
  generalize ((w.alloc (.cells #[.int .u64 seed, .int .i64 h] 142)).drewN nq) = w1 at *
  have H1 := Lib.hid (And.intro hn1 (And.intro hb1 hx0))
  have HS := Lib.hid (And.intro hl0 (And.intro hr0 hside))
  clear hn1 hb1 hx0 hlt hl0 hr0 hside
  go_wp2_with fail
  refine (rounds_any w1).mono ?_
  rintro e w2 ⟨rfl, hn2⟩
  have hn3 : New w1 (w2.alloc (.cells #[.int .i64 0, .int .i64 1, .int .i64 2, .int .i64 3] 164)) := hn2.alloc _
  have hb3 : Blk (w2.alloc (.cells #[.int .i64 0, .int .i64 1, .int .i64 2, .int .i64 3] 164)) w2.heap.size 164 #[.int .i64 0, .int .i64 1, .int .i64 2, .int .i64 3] := Blk.new _ _ _
  have H3 := Lib.hid (And.intro (H1.out.1.new hn3) (And.intro (H1.out.2.1.chg hn3 (fun h => h)) (And.intro hb3 H1.out.2.2)))
  clear hn2 hn3 hb3 H1
  go_wp2_with fail
  generalize hw3 : (w2.alloc (.cells #[.int .i64 0, .int .i64 1, .int .i64 2, .int .i64 3] 164)) = w3 at *
  clear hw3
  generalize w2.heap.size = g at *
  go_loopw [5, 6, 8] (fun l r i wr => ∃ j l' r' : Nat, j ≤ 4 ∧ l = .int .i64 l' ∧ r = .int .i64 r' ∧ i = .int .i64 ((j : Int) - 1) ∧ bwd (partN seed h) j (l', r') = bwd (partN seed h) 4 (l0, r0) ∧ l' < 2 ^ h ∧ r' < 2 ^ h ∧ New w3 wr)
    (fun _ _ i _ => (intOf i + 1).toNat)
  case atStart => exact ⟨4, l0, r0, by omega, rfl, rfl, rfl, rfl, HS.out.1, HS.out.2.1, Chg.refl _ _⟩
  case round =>
    obtain ⟨j, l, r, hj, rfl, rfl, rfl, hbw, hl, hr, hnew⟩ := hrel
    have hside := HS.out.2.2
    have hb4 := H3.out.2.1.chg hnew (fun h => h)
    have hc0 := hb4.cell 0 rfl
    have hc1 := hb4.cell 1 rfl
    have hlb : l < 1048576 := Nat.lt_of_lt_of_le hl hside
    have hrb : r < 1048576 := Nat.lt_of_lt_of_le hr hside
    have HW := Lib.hid (And.intro hbw (And.intro hl (And.intro hr hnew)))
    rcases j with _ | j
    · clear hbw hl hr hside
      have hi : decide ((0 : Int) ≤ ((0 : Nat) : Int) - 1) = false := by simp
      go_wp2
      go_ret
      obtain ⟨hbw, hl, hr, hnew⟩ := HW.out
      refine ⟨ret_int ?_, H3.out.1.new hnew⟩
      rw [join_eq hh hl hr]
      unfold backN
      rw [H3.out.2.2.2, ← hbw]
      rfl
    · have hij : ((j + 1 : Nat) : Int) - 1 = (j : Int) := by omega
      rw [hij]
      have hlist := H3.out.2.2.1.chg hnew (fun h => h)
      have hcell : wr.cell? ⟨g, j, none⟩ = some (.int .i64 (j : Int)) := by
        rcases j with _ | _ | _ | _ | j
        · exact hlist.cell 0 rfl
        · exact hlist.cell 1 rfl
        · exact hlist.cell 2 rfl
        · exact hlist.cell 3 rfl
        · omega
      have hji : (j : Int) < 4 := by omega
      have hpart := part_any seed h hh j l wr.drew
      have hpl := partN_lt seed h j l
      clear hbw hl hr hside hnew hlist hij
      go_wp2_with fail
      go_region_with (first
        | (go_at_call 116; refine hpart.mono ?_; rintro e w5 ⟨rfl, HN5⟩))
      all_goals
        go_wp2
        go_roundw
        case rel =>
          obtain ⟨hbw, hl, hr, hnew⟩ := HW.out
          have hside := HS.out.2.2
          refine ⟨j, r ^^^ partN seed h j l, l, by omega, ?_, rfl, by go_num, hbw, Nat.xor_lt_two_pow hr hpl, hl, hnew.drew.new HN5⟩
          rw [i64_xor_nat r _ (by omega) (by omega)]
        case measure => simp [intOf]
end Go.Proofs.YtmpkaimhjdkheaaGreatDoor

namespace Go.Proofs.YtmpkaimhjdkheaaGreatDoor
open Go.RowKit Go.Shelf Go.Mem Go.Pure

/-- What is wrong with the arguments of Order. -/
def boundsI (n k : Int) : Int := if n < 1 ∨ 1099511627776 < n then 1 else if k < 0 ∨ n ≤ k then 5 else 0
theorem boundsI_ok {n k : Int} (h : boundsI n k = 0) : 1 ≤ n ∧ n ≤ 1099511627776 ∧ 0 ≤ k ∧ k < n := by
  unfold boundsI at h
  split at h
  · cases h
  · split at h
    · cases h
    · omega
theorem boundsI_of {n k : Int} (h1 : 1 ≤ n) (h2 : n ≤ 1099511627776) (h3 : 0 ≤ k) (h4 : k < n) : boundsI n k = 0 := by
  unfold boundsI
  rw [if_neg (by omega), if_neg (by omega)]

set_option maxHeartbeats 1000000 in
theorem bounds_any (n k : Int) (w : World) : Calls Tryz.prog 96 #[.int .i64 n, .int .i64 k] w fun e w' => e = .returned (.int .i64 (boundsI n k)) ∧ w = w' := by
  by_cases h1 : n < 1
  · go_enter Tryz.func96, Tryz.ntmps96
    go_wp2
    go_ret
    exact ⟨ret_int (by unfold boundsI; rw [if_pos (.inl h1)]), rfl⟩
  · have g1 : decide (n < 1) = false := by simp; omega
    by_cases h2 : 1099511627776 < n
    · go_enter Tryz.func96, Tryz.ntmps96
      go_wp2
      go_ret
      exact ⟨ret_int (by unfold boundsI; rw [if_pos (.inr h2)]), rfl⟩
    · have g2 : decide (1099511627776 < n) = false := by simp; omega
      by_cases h3 : k < 0
      · go_enter Tryz.func96, Tryz.ntmps96
        go_wp2
        go_ret
        exact ⟨ret_int (by unfold boundsI; rw [if_neg (by omega), if_pos (.inl h3)]), rfl⟩
      · have g3 : decide (k < 0) = false := by simp; omega
        by_cases h4 : n ≤ k
        · go_enter Tryz.func96, Tryz.ntmps96
          go_wp2
          go_ret
          exact ⟨ret_int (by unfold boundsI; rw [if_neg (by omega), if_pos (.inr h4)]), rfl⟩
        · have g4 : decide (n ≤ k) = false := by simp; omega
          go_enter Tryz.func96, Tryz.ntmps96
          go_wp2
          go_ret
          exact ⟨ret_int (by unfold boundsI; rw [if_neg (by omega), if_neg (by omega)]), rfl⟩

/-- The half for n numbers (20 where there is none). -/
theorem half_ex (n : Nat) (hn : n ≤ 1099511627776) : ∃ h, IsHalf n h := by
  obtain ⟨t, ht, hmin⟩ := least (P := fun t => n ≤ 4 ^ (t + 1)) ⟨19, by show n ≤ 4 ^ 20; omega⟩
  refine ⟨t + 1, by omega, ht, fun j h1 h2 => ?_⟩
  have := hmin (j - 1) (by omega)
  rw [show j - 1 + 1 = j by omega] at this
  omega
open Classical in
noncomputable def halfN (n : Nat) : Nat := if h : ∃ g, IsHalf n g then h.choose else 20
theorem halfN_eq {n h : Nat} (H : IsHalf n h) : halfN n = h := by
  unfold halfN
  rw [dif_pos ⟨h, H⟩]
  exact IsHalf.uniq (Exists.choose_spec _) H
theorem sq_pow (h : Nat) : 2 ^ h * 2 ^ h = 4 ^ h := by rw [four_pow, ← Nat.pow_add]; congr 1; omega
/-- Where the k-th of n is. -/
noncomputable def orderN (seed : Int) (n k : Nat) : Nat := land (forthN (partN seed (halfN n)) (halfN n)) n k
noncomputable def placeN (seed : Int) (n k : Nat) : Nat := land (backN (partN seed (halfN n)) (halfN n)) n k
theorem permN (seed : Int) {n h : Nat} (H : IsHalf n h) : Perm (forthN (partN seed h) h) (backN (partN seed h) h) (4 ^ h) := by
  have := feistel (p := partN seed h) (h := h) (fun i r => partN_lt seed h i r)
  rwa [sq_pow] at this
theorem order_lt (seed : Int) {n k : Nat} (hn : n ≤ 1099511627776) (hk : k < n) : orderN seed n k < n := by
  obtain ⟨h, H⟩ := half_ex n hn
  unfold orderN
  rw [halfN_eq H]
  exact land_lt (permN seed H) H.2.1 hk
theorem place_lt (seed : Int) {n k : Nat} (hn : n ≤ 1099511627776) (hk : k < n) : placeN seed n k < n := by
  obtain ⟨h, H⟩ := half_ex n hn
  unfold placeN
  rw [halfN_eq H]
  exact land_lt (permN seed H).symm H.2.1 hk
theorem place_order (seed : Int) {n k : Nat} (hn : n ≤ 1099511627776) (hk : k < n) : placeN seed n (orderN seed n k) = k := by
  obtain ⟨h, H⟩ := half_ex n hn
  unfold placeN orderN
  rw [halfN_eq H]
  exact land_back (permN seed H) H.2.1 hk
theorem order_place (seed : Int) {n k : Nat} (hn : n ≤ 1099511627776) (hk : k < n) : orderN seed n (placeN seed n k) = k := by
  obtain ⟨h, H⟩ := half_ex n hn
  unfold placeN orderN
  rw [halfN_eq H]
  exact land_back (permN seed H).symm H.2.1 hk

/-- The walk of land: x has been reached, dist is what is left. -/
theorem land_walk {f : Nat → Nat} {n k x : Nat} (h : ∃ t, iter f t x < n) (e : land f n k = iter f (dist f n x) x) (hx : ¬ x < n) : (∃ t, iter f t (f x) < n) ∧ land f n k = iter f (dist f n (f x)) (f x) ∧ dist f n (f x) < dist f n x := by
  obtain ⟨h1, h2⟩ := dist_step h hx
  refine ⟨h2, ?_, by omega⟩
  rw [e, h1]
  rfl
theorem dist_zero {f : Nat → Nat} {n x : Nat} (hx : x < n) : dist f n x = 0 := by
  have h : ∃ t, iter f t x < n := ⟨0, hx⟩
  obtain ⟨_, h2⟩ := dist_spec h
  rcases Nat.eq_zero_or_pos (dist f n x) with h0 | h0
  · exact h0
  · exact absurd hx (h2 0 h0)

set_option maxHeartbeats 2000000 in
set_option maxRecDepth 100000 in
theorem place_any (seed : Int) (n k : Int) (w : World) (hn : -9223372036854775808 ≤ n ∧ n ≤ 9223372036854775807) : Calls Tryz.prog 72 #[.int .u64 seed, .int .i64 n, .int .i64 k] w fun e w' =>
    e = .returned (.tuple #[.int .i64 (if boundsI n k = 0 then (placeN seed n.toNat k.toNat : Int) else 0), .int .i64 (boundsI n k)]) ∧ New w w' := by
  by_cases hb : boundsI n k = 0
  · obtain ⟨h1, h2, h3, h4⟩ := boundsI_ok hb
    obtain ⟨N, rfl⟩ : ∃ N : Nat, n = (N : Int) := ⟨n.toNat, by omega⟩
    obtain ⟨K, rfl⟩ : ∃ K : Nat, k = (K : Int) := ⟨k.toNat, by omega⟩
    have hN : N ≤ 1099511627776 := by omega
    have hK : K < N := by omega
    rw [if_pos hb, hb, Int.toNat_natCast, Int.toNat_natCast]
    have HB := Lib.hid hb
    clear hb h1 h2 h3 h4 hn
    obtain ⟨h, hH⟩ := half_ex N hN
    have hh := hH.le hN
    have hon : placeN seed N K = land (backN (partN seed h) h) N K := by unfold placeN; rw [halfN_eq hH]
    rw [hon]
    clear hon
    have hperm := (permN seed hH).symm
    obtain ⟨f, hf⟩ : ∃ f, backN (partN seed h) h = f := ⟨_, rfl⟩
    have hfa := fun x (hx : x < 4 ^ h) W => back_any seed h x hh (by rw [sq_pow]; exact hx) W
    rw [hf] at hfa hperm ⊢
    have HF := Lib.hid (And.intro hperm (And.intro hfa (And.intro hH hf)))
    have hN4 := hH.2.1
    obtain ⟨M, hM⟩ : ∃ M, 4 ^ h = M := ⟨_, rfl⟩
    have hMb : M ≤ 1099511627776 := by rw [← hM]; exact Nat.le_trans (Nat.pow_le_pow_right (by omega) hh) (by decide)
    rw [hM] at hN4 HF
    clear hM hf hperm hfa hH
    go_enter Tryz.func72, Tryz.ntmps72
    go_wp2_with fail
    refine (bounds_any (N : Int) (K : Int) w).mono ?_
    rintro e w1 ⟨rfl, rfl⟩
    rw [HB.out]
    go_wp2_with fail
    refine (newMixer_any seed N hN w).mono ?_
    rintro e w2 ⟨h', rfl, hH', hn2⟩
    obtain rfl : h' = h := hH'.uniq HF.out.2.2.1
    have hn3 : New w (w2.alloc (.cells #[.int .u64 seed, .int .i64 h'] 142)) := hn2.alloc _
    have hb3 : Blk (w2.alloc (.cells #[.int .u64 seed, .int .i64 h'] 142)) w2.heap.size 142 #[.int .u64 seed, .int .i64 h'] := Blk.new _ _ _
    have H3 := Lib.hid (And.intro hn3 hb3)
    clear hn2 hn3 hb3 hH'
    go_wp2_with fail
    generalize hw3 : (w2.alloc (.cells #[.int .u64 seed, .int .i64 h'] 142)) = w3 at *
    clear hw3
    generalize w2.heap.size = g at *
    refine (HF.out.2.1 K (by omega) w3).mono ?_
    rintro e w4 ⟨rfl, hn4⟩
    have H4 := Lib.hid (And.intro (H3.out.1.new hn4) (H3.out.2.chg hn4 (fun h => h)))
    clear hn4
    go_wp2_with fail
    go_loopw [2] (fun x wr => ∃ y : Nat, x = .int .i64 y ∧ y < M ∧ (∃ t, iter f t y < N) ∧ land f N K = iter f (dist f N y) y ∧ New w4 wr) (fun x _ => dist f N (intOf x).toNat)
    case atStart => exact ⟨f K, rfl, HF.out.1.fl K (by omega), land_ex HF.out.1 hN4 hK, rfl, Chg.refl _ _⟩
    case round =>
      obtain ⟨y, rfl, hy, hex, hland, hnew⟩ := hrel
      have HX := Lib.hid (And.intro hex (And.intro hland hnew))
      have hb5 := H4.out.2.chg hnew (fun h => h)
      have hc0 := hb5.cell 0 rfl
      have hc1 := hb5.cell 1 rfl
      clear hex hland hnew
      by_cases hlt : y < N
      · have hge : decide ((N : Int) ≤ (y : Int)) = false := by simp; omega
        go_wp2
        go_ret2
        obtain ⟨hex, hland, hnew⟩ := HX.out
        rw [hland, dist_zero hlt]
        exact ⟨rfl, H4.out.1.new hnew⟩
      · have hge : (N : Int) ≤ (y : Int) := by omega
        go_wp2_with fail
        refine (HF.out.2.1 y hy wr).mono ?_
        rintro e w6 ⟨rfl, hn6⟩
        have HN6 := Lib.hid hn6
        clear hn6
        go_wp2
        go_roundw
        case rel =>
          obtain ⟨hex, hland, hnew⟩ := HX.out
          obtain ⟨h1, h2, h3⟩ := land_walk hex hland hlt
          exact ⟨f y, rfl, HF.out.1.fl y hy, h1, h2, hnew.new HN6.out⟩
        case measure =>
          obtain ⟨hex, hland, hnew⟩ := HX.out
          obtain ⟨h1, h2, h3⟩ := land_walk hex hland hlt
          simpa [intOf] using h3
  · have HB := Lib.hid hb
    have hne : (boundsI n k == 0) = false := by simpa using hb
    have hne' : (boundsI n k != 0) = true := by simpa using hb
    rw [if_neg hb]
    clear hb
    obtain ⟨B, hB⟩ : ∃ B, boundsI n k = B := ⟨_, rfl⟩
    rw [hB] at hne hne' ⊢
    have HBB := Lib.hid hB
    clear hB
    go_enter Tryz.func72, Tryz.ntmps72
    go_wp2_with fail
    refine (bounds_any n k w).mono ?_
    rintro e w1 ⟨rfl, rfl⟩
    rw [HBB.out]
    go_wp2
    go_ret2
    exact ⟨rfl, Chg.refl _ _⟩
end Go.Proofs.YtmpkaimhjdkheaaGreatDoor

namespace Go.Proofs.YtmpkaimhjdkheaaGreatDoor
set_option linter.unusedVariables false
open Go.RowKit Go.Mem Go.Dig Go.Pure

theorem sameI_step {a b : List Int} {k : Nat} {x y : Int} (h : a.take k = b.take k) (hx : a[k]? = some x) (hy : b[k]? = some y) (e : x = y) : a.take (k + 1) = b.take (k + 1) := by
  rw [List.take_add_one, List.take_add_one, h, hx, hy, e]

set_option maxHeartbeats 1000000 in
theorem sameInts_any (A B : Option Addr) (n m c d : Nat) (la lb : List Int) (w : World) (ha : Rd w A n (is la)) (hb : Rd w B m (is lb)) (hn : n ≤ 9223372036854775807) (hm : m ≤ 9223372036854775807) :
    Calls Tryz.prog 47 #[.slice A n c, .slice B m d] w fun e w' => e = .returned (.bool (decide (la = lb))) ∧ ∃ m, w' = w.drewN m := by
  have hla : la.length = n := by have := ha.len; rwa [is_length] at this
  have hlb : lb.length = m := by have := hb.len; rwa [is_length] at this
  by_cases h : n = m
  · subst h
    have HA := Lib.hid hla
    have HB := Lib.hid hlb
    clear hla hlb
    go_enter Tryz.func47, Tryz.ntmps47
    go_wp2
    go_loopw [5] (fun i wr => ∃ k : Nat, k ≤ n ∧ i = .int .i64 k ∧ la.take k = lb.take k ∧ ∃ q, wr = w.drewN q) (fun i _ => n - (intOf i).toNat)
    case atStart => exact ⟨0, Nat.zero_le _, rfl, rfl, 0, rfl⟩
    case round =>
      obtain ⟨k, hk, rfl, htake, hnew⟩ := hrel
      have HT := Lib.hid htake
      obtain ⟨q, hq⟩ := hnew
      have hnew : New w wr := by rw [hq]; exact (Chg.refl _ w).drewN q
      have HQ := Lib.hid hq
      clear htake hq
      by_cases hlt : k < n
      · obtain ⟨ad, u, rfl, hu, hcu⟩ := (ha.new hnew).at_ hlt
        obtain ⟨bd, v, rfl, hv, hcv⟩ := (hb.new hnew).at_ hlt
        obtain ⟨x, hx, rfl⟩ := is_at hu
        obtain ⟨y, hy, rfl⟩ := is_at hv
        have HX := Lib.hid hx
        have HY := Lib.hid hy
        clear hu hv hx hy ha hb
        by_cases hxy : x = y
        · subst hxy
          go_wp2
          go_quiet (fail)
          go_wp2
          go_roundw
          case rel => exact ⟨k + 1, by omega, by go_num, sameI_step HT.out HX.out HY.out rfl, _, by rw [HQ.out, World.drewN_drewN]⟩
          case measure => simp [intOf]; omega
        · have hne : (x != y) = true := by simp [hxy]
          have e : la ≠ lb := fun e => by
            have h1 := HX.out
            rw [e, HY.out] at h1
            injection h1 with h1
            exact hxy h1.symm
          have HE : Hid (decide (la = lb) = false) := by show _ = _; simpa using e
          clear e
          go_wp2
          go_quiet (fail)
          go_wp2
          go_ret
          rw [HE.out]
          exact ⟨rfl, _, by rw [HQ.out, World.drewN_drewN]⟩
      · go_wp2
        go_ret
        have hk' : k = n := by omega
        subst hk'
        have e : la = lb := by
          have := HT.out
          rwa [List.take_of_length_le (by rw [HA.out]; omega), List.take_of_length_le (by rw [HB.out]; omega)] at this
        exact ⟨by simp [e], _, HQ.out⟩
  · have e : la ≠ lb := fun e => h (by rw [← hla, ← hlb, e])
    have hd : decide (la = lb) = false := by simpa using e
    have H := Lib.hid hd
    clear hla hlb hd
    go_enter Tryz.func47, Tryz.ntmps47
    go_wp2
    go_ret
    rw [H.out]
    exact ⟨by simp, 0, rfl⟩

/-- What Shuffle returns. -/
noncomputable def shufL (seed : Int) (n : Nat) : List Int := (List.range n).map (fun k => (placeN seed n k : Int))
theorem shufL_length (seed : Int) (n : Nat) : (shufL seed n).length = n := by simp [shufL]
noncomputable def shufTo (seed : Int) (n k : Nat) : List Int := (List.range k).map (fun k => (placeN seed n k : Int)) ++ List.replicate (n - k) 0
theorem shufTo_step (seed : Int) {n k : Nat} (h : k < n) : (shufTo seed n k).set k (placeN seed n k : Int) = shufTo seed n (k + 1) := by
  unfold shufTo
  rw [List.set_append_right _ _ (by simp), List.length_map, List.length_range, Nat.sub_self, List.range_succ, List.map_append, List.append_assoc]
  congr 1
  obtain ⟨m, hm⟩ : ∃ m, n - k = m + 1 := ⟨n - k - 1, by omega⟩
  rw [hm, show n - (k + 1) = m by omega, List.replicate_succ, List.set_cons_zero]
  rfl
theorem shufTo_all (seed : Int) (n : Nat) : shufTo seed n n = shufL seed n := by simp [shufTo, shufL]

set_option maxHeartbeats 1000000 in
theorem shuffle_any (seed : Int) (n : Nat) (h1 : 1 ≤ n) (h2 : n ≤ 1024) (w : World) :
    Calls Tryz.prog 46 #[.int .u64 seed, .int .i64 n] w fun e w' => ∃ A c, e = .returned (.tuple #[.slice A n c, .int .i64 0]) ∧ w'.ownsRow w.heap.size 3 1 (.slice A n c) n (is (shufL seed n)) ∧ New w w' := by
  have g1 : decide ((n : Int) < 1) = false := by simp; omega
  have g2 : decide ((1024 : Int) < (n : Int)) = false := by simp; omega
  go_enter Tryz.func46, Tryz.ntmps46
  go_wp2_with (at_make; refine wpList_mk elemInts rfl rfl _ _ rfl (n := n) rfl rfl rfl rfl (by omega) (by simp only [maxLen]; omega) ?_; intro w1 hown hg hz; have HO := Lib.hid (And.intro hown (And.intro hg hz)); clear hown hg hz)
  go_loopw [18] (fun i wr => ∃ k : Nat, k ≤ n ∧ i = .int .i64 k ∧ Hid (wr.ownsRow w.heap.size 3 1 (.slice (some ⟨w.heap.size, 0, none⟩) n n) n (is (shufTo seed n k)) ∧ New w wr)) (fun i _ => n - (intOf i).toNat)
  case atStart =>
    refine ⟨0, Nat.zero_le _, rfl, ?_, HO.out.2.1⟩
    have := HO.out.1
    rw [show List.replicate n (Value.int .i64 0) = is (shufTo seed n 0) by simp [shufTo, is]] at this
    exact this
  case round =>
    obtain ⟨k, hk, rfl, HR⟩ := hrel
    clear HO
    by_cases hlt : k < n
    · have HB : Hid (boundsI (n : Int) (k : Int) = 0) := boundsI_of (by omega) (by omega) (by omega) (by omega)
      go_wp2_with fail
      refine (place_any seed (n : Int) (k : Int) wr (by omega)).mono ?_
      rw [HB.out, if_pos rfl, Int.toNat_natCast, Int.toNat_natCast]
      rintro e w2 ⟨rfl, hn2⟩
      obtain ⟨ho, hnew⟩ := HR.out
      have ho2 := own_chg ho hn2 (fun _ _ h => h)
      obtain ⟨g, hg, hg1, hg2, hfz⟩ := own_form ho2 (by omega)
      have hgw : w.heap.size = g := by simpa using hg
      have hf := hfz k
      have hlk : k < (shufTo seed n k).length := by unfold shufTo; simp; omega
      have hcell := own_cell ho2 (i := k) (u := .int .i64 ((shufTo seed n k)[k])) (by unfold is; rw [List.getElem?_map, List.getElem?_eq_getElem hlk]; rfl)
      rw [← hgw] at hf
      generalize (shufTo seed n k)[k] = old at hcell
      have H2 := Lib.hid (And.intro ho2 (hnew.new hn2))
      obtain ⟨p, hp⟩ : ∃ p, placeN seed n k = p := ⟨_, rfl⟩
      rw [hp]
      have HP := Lib.hid hp
      have hsz := hg2
      rw [← hgw] at hsz
      clear ho hnew ho2 hg hg1 hg2 hfz hgw hp hn2 HR HB hlk
      go_wp2
      go_roundw
      case rel =>
        obtain ⟨ho2, hn2⟩ := H2.out
        refine ⟨k + 1, by omega, by go_num, ?_, ?_⟩
        · rw [← shufTo_step seed hlt, HP.out]
          have := own_set ho2 k (.int .i64 (p : Int)) hlt
          rw [show is ((shufTo seed n k).set k (p : Int)) = (is (shufTo seed n k)).set k (.int .i64 (p : Int)) by simp [is, List.map_set]]
          exact this
        · exact hn2.setCell (fun h => absurd h (by simp)) _
      case measure => simp [intOf]; omega
    · obtain rfl : n = k := by omega
      go_wp2
      go_ret2
      obtain ⟨ho, hn⟩ := HR.out
      rw [shufTo_all] at ho
      exact ⟨_, _, rfl, ho, hn⟩

set_option maxHeartbeats 1000000 in
theorem shuffle_bad (seed : Int) (n : Int) (h : n < 1 ∨ 1024 < n) (w : World) :
    Calls Tryz.prog 46 #[.int .u64 seed, .int .i64 n] w fun e w' => e = .returned (.tuple #[.slice none 0 0, .int .i64 1]) ∧ w = w' := by
  by_cases h1 : n < 1
  · clear h
    go_enter Tryz.func46, Tryz.ntmps46
    go_wp2
    go_ret2
    exact ⟨rfl, rfl⟩
  · have g1 : decide (n < 1) = false := by simp; omega
    have g2 : 1024 < n := by omega
    clear h
    go_enter Tryz.func46, Tryz.ntmps46
    go_wp2
    go_ret2
    exact ⟨rfl, rfl⟩

theorem flatInt : Flat Tryz.prog 3 := ⟨_, Tryz.underlying3, rfl⟩
theorem flatErr : Flat Tryz.prog 36 := ⟨_, Tryz.underlying36, rfl⟩
set_option maxHeartbeats 1000000 in
theorem parts_one (v : Value) (w : World) (hv : WI w v 1) :
    Calls Tryz.prog 28 #[v] w fun e w' => ∃ v', e = .returned (.tuple #[.int .i64 0, v', .bool true]) ∧ WI w' v' 1 ∧ New w w' := by
  obtain ⟨s, A, n, c, rfl, hs, hm⟩ := hv
  have H := Lib.hid (And.intro hs hm)
  clear hs hm
  go_enter Tryz.func28, Tryz.ntmps28
  go_wp2_with fail
  refine Calls.new2 ?_
  intro W hb1 hb2 hn hz
  refine (from_any 1 W (by omega) (by omega)).mono ?_
  rintro e w1 ⟨v1, rfl, ⟨s1, A1, n1, c1, rfl, hs1, hm1⟩, hn1⟩
  have hb3 := hb1.chg hn1 (fun h => h)
  have hb4 := hb2.chg hn1 (fun h => h)
  have hz1 : w.heap.size + 2 ≤ w1.heap.size := by have := hn1.size; omega
  obtain ⟨W2, hW2⟩ : ∃ W2, w1.alloc (.cells #[.bool s1, .slice A1 n1 c1] 35) = W2 := ⟨_, rfl⟩
  have hb5 : Blk W2 w1.heap.size 35 #[.bool s1, .slice A1 n1 c1] := by rw [← hW2]; exact Blk.new _ _ _
  have hn2 : New w1 W2 := by rw [← hW2]; exact (Chg.refl _ w1).alloc _
  have H1 := Lib.hid (And.intro (hb3.chg hn2 (fun h => h)) (And.intro (hb4.chg hn2 (fun h => h)) (And.intro hb5 (And.intro ((hn.new hn1).new hn2) (And.intro hs1 (hm1.new hn2))))))
  have HW2 := Lib.hid hW2
  clear hb1 hb2 hn hn1 hb3 hb4 hs1 hm1 hz hb5 hn2 hW2
  go_wp2_with fail
  go_loopw [6] (fun i wr => i = .int .i64 0 ∧ wr = W2) (fun i _ => 0)
  case atStart => exact ⟨rfl, HW2.out⟩
  case round =>
    obtain ⟨rfl, hwr⟩ := hrel
    clear HW2
    subst hwr
    obtain ⟨hb3, hb4, hb5, hn, hs1, hm1⟩ := H1.out
    have hc30 := hb3.cell 0 (u := .bool s) rfl
    have hc31 := hb3.cell 1 (u := .slice A n c) rfl
    have hc50 := hb5.cell 0 (u := .bool s1) rfl
    have hc51 := hb5.cell 1 (u := .slice A1 n1 c1) rfl
    clear hb3 hb4 hb5 hn hs1 hm1
    go_wp2_with fail
    obtain ⟨hb3, hb4, hb5, hn, hs1, hm1⟩ := H1.out
    refine (compare_any _ _ 1 1 wr (WI.new ⟨s, A, n, c, rfl, H.out⟩ hn) ⟨s1, A1, n1, c1, rfl, hs1, hm1⟩).mono ?_
    rintro e w3 ⟨rfl, hn3⟩
    rw [show cmpI 1 1 = 0 by decide]
    have hb6 := hb4.chg hn3 (fun h => h)
    have hb7 := hb5.chg hn3 (fun h => h)
    have hc60 := hb6.cell 0 (u := .bool false) rfl
    have hc61 := hb6.cell 1 (u := .slice none 0 0) rfl
    have hf60 := hb6.frozen 0
    have hf61 := hb6.frozen 1
    have hc70 := hb7.cell 0 (u := .bool s1) rfl
    have hc71 := hb7.cell 1 (u := .slice A1 n1 c1) rfl
    have H3 := Lib.hid (And.intro hb6 (And.intro (hn.new hn3) (And.intro hs1 (hm1.new hn3))))
    clear hb3 hb4 hb5 hn hn3 hs1 hm1 hb6 hb7 hc30 hc31 hc50 hc51 H1 H
    go_wp2_with fail
    go_region
    all_goals
      go_wp2
      obtain ⟨hb6, hn, hs1, hm1⟩ := H3.out
      refine bodyPost_ret (res_tct rfl _ rfl rfl (aggInt.load (Blk.drew (hb6.set2 _ _))) rfl) rfl ⟨_, rfl, ⟨s1, A1, n1, c1, rfl, hs1, ?_⟩, ?_⟩
      · exact hm1.store hb6 (noInt_two _ _ _ _) ((Chg.at2 _ _ _ _).drew)
      · exact Chg.owned hn (Chg.at2 _ _ _ _).drew (fun k e => by omega)

set_option maxHeartbeats 1000000 in
theorem big_one (seed : Int) (lab : ByteArray) (i : Int) (v : Value) (w : World) (hv : WI w v 1) :
    Calls Tryz.prog 13 #[.int .u64 seed, .string lab, .int .i64 i, v] w fun e w' => e = .returned (.tuple #[.agg #[.bool false, .slice none 0 0], .int .i64 i, .int .i64 0]) ∧ New w w' := by
  obtain ⟨s, A, n, c, rfl, hs, hm⟩ := hv
  have H := Lib.hid (And.intro hs hm)
  clear hs hm
  go_enter Tryz.func13, Tryz.ntmps13
  go_wp2_with fail
  refine Calls.new4 ?_
  intro W hb1 hb2 hb3 hb4 hn hz
  have hwi : WI W (.agg #[.bool s, .slice A n c]) 1 := WI.new ⟨s, A, n, c, rfl, H.out⟩ hn
  refine (sign_any _ 1 W hwi).mono ?_
  rintro e w1 ⟨rfl, hn1⟩
  rw [show cmpI 1 0 = 1 by decide]
  have hc := hb1.chg hn1 (fun h => h)
  have hc0 := hc.cell 0 rfl
  have hc1 := hc.cell 1 rfl
  have H1 := Lib.hid (And.intro hb2 (And.intro hb3 (And.intro hb4 (And.intro hn (And.intro hn1 (hwi.new hn1))))))
  have hz1 : w.heap.size + 4 ≤ w1.heap.size := by have := hn1.size; omega
  clear hb1 hb2 hb3 hb4 hn hn1 hwi hc hz H
  go_wp2_with fail
  refine (parts_one _ w1 H1.out.2.2.2.2.2).mono ?_
  rintro e w2 ⟨v2, rfl, ⟨s2, A2, n2, c2, rfl, hs2, hm2⟩, hn2⟩
  obtain ⟨hb2, hb3, hb4, hn, hn1, _⟩ := H1.out
  have hd2 := (hb2.chg hn1 (fun h => h)).chg hn2 (fun h => h)
  have hd3 := (hb3.chg hn1 (fun h => h)).chg hn2 (fun h => h)
  have hd4 := (hb4.chg hn1 (fun h => h)).chg hn2 (fun h => h)
  have hcA := hd2.cell 0 (u := .bool false) rfl
  have hcB := hd2.cell 1 (u := .slice none 0 0) rfl
  have hcC := hd3.cell 0 (u := .int .i64 0) rfl
  have hcD := hd4.cell 0 (u := .int .i64 0) rfl
  have hl0 : w.heap.size < w2.heap.size := by have := hd2.lt; omega
  have hlA := hd2.lt
  have hlC := hd3.lt
  have hlD := hd4.lt
  have hfA := hd2.frozen 0
  have hfB := hd2.frozen 1
  have hfC := hd3.frozen 0
  have hfD := hd4.frozen 0
  have hz2 : w.heap.size + 4 ≤ w2.heap.size := by have := hn2.size; omega
  have H2 := Lib.hid (And.intro hd2 (And.intro hd3 (And.intro hd4 ((hn.new hn1).new hn2))))
  clear hb2 hb3 hb4 hn hn1 hs2 hm2 hn2 hd2 hd3 hd4 H1 hc0 hc1 hz1
  go_wp2_with fail
  obtain ⟨hd2, hd3, hd4, hn⟩ := H2.out
  have k2 := ((((hd2.set2 (.bool false) (.slice none 0 0)).far (p := ⟨w.heap.size + 1 + 1, 0, none⟩) (by dsimp only; omega) (.int .i64 i)).far (p := ⟨w.heap.size + 1 + 1 + 1, 0, none⟩) (by dsimp only; omega) (.int .i64 0)).alloc (.cells #[.int .i64 0] 3)).alloc (.cells #[.bool s2, .slice A2 n2 c2] 35)
  have k3 := (((((hd3.far (p := ⟨w.heap.size + 1, 0, none⟩) (by dsimp only; omega) (.bool false)).far (p := ⟨w.heap.size + 1, 1, none⟩) (by dsimp only; omega) (.slice none 0 0)).set1 (.int .i64 i)).far (p := ⟨w.heap.size + 1 + 1 + 1, 0, none⟩) (by dsimp only; omega) (.int .i64 0)).alloc (.cells #[.int .i64 0] 3)).alloc (.cells #[.bool s2, .slice A2 n2 c2] 35)
  have k4 := (((((hd4.far (p := ⟨w.heap.size + 1, 0, none⟩) (by dsimp only; omega) (.bool false)).far (p := ⟨w.heap.size + 1, 1, none⟩) (by dsimp only; omega) (.slice none 0 0)).far (p := ⟨w.heap.size + 1 + 1, 0, none⟩) (by dsimp only; omega) (.int .i64 i)).set1 (.int .i64 0)).alloc (.cells #[.int .i64 0] 3)).alloc (.cells #[.bool s2, .slice A2 n2 c2] 35)
  refine bodyPost_ret (res_ccc rfl _ rfl (aggInt.load k2) rfl (flatInt.load k3) rfl (flatErr.load k4)) rfl ⟨rfl, ?_⟩
  exact (((((hn.setCell (fun h => absurd h (by simp)) _).setCell (fun h => absurd h (by simp)) _).setCell (fun h => absurd h (by simp; omega)) _).setCell (fun h => absurd h (by simp; omega)) _).alloc _).alloc _

theorem below_one (seed : Int) (s : ByteArray) (hs : s.size ≤ 1000000) (i : Int) (hi : 0 ≤ i ∧ i ≤ 1000000000) (w : World) :
    Calls Tryz.prog 43 #[.int .u64 seed, .string s, .int .i64 i, .int .i64 1] w fun e w' => e = .returned (.tuple #[.int .i64 0, .int .i64 (i + 1)]) ∧ New w w' := by
  refine (below_any seed s hs i hi 1 (by omega) (by omega) w).mono ?_
  rintro e w1 ⟨rfl, hn⟩
  have ht : takenN seed s.data.toList i 1 = 0 := taken_eq (by omega) (fun j hj => by omega) (.inl (.inl (by unfold overN; omega)))
  rw [ht]
  refine ⟨?_, hn⟩
  rw [show ((1 : Nat) : Int) = 1 from rfl, Int.emod_one, show i + ((0 : Nat) : Int) + 1 = i + 1 by omega]
theorem pick3 (seed : Int) (lab : List UInt8) (i : Int) : ∃ q, pickR seed lab i [0, 3, 0] = (1, q, 0) := by
  have hg : goodW [0, 3, 0] := by intro w hw; simp at hw; omega
  have hb : ¬ pickBad [0, 3, 0] := by
    intro h
    rcases h with h | h | h | h
    · simp at h
    · simp at h
    · exact h hg
    · simp at h
  obtain ⟨r, hr⟩ : ∃ r, wordI seed lab (i + (takenN seed lab i 3 : Nat)) % ((3 : Nat) : Int) = r := ⟨_, rfl⟩
  have h0 : 0 ≤ r := by rw [← hr]; exact Int.emod_nonneg _ (by omega)
  have h3 : r < 3 := by rw [← hr]; exact Int.emod_lt_of_pos _ (by omega)
  have hk : seek [0, 3, 0] r 0 = some 1 := by
    rw [seek, if_neg (by omega), seek, if_pos (by omega)]
  exact ⟨_, pickR_ok hb (S := 3) (by simp) rfl hr hk⟩
theorem shuf1 (seed : Int) : shufL seed 1 = [0] := by
  have := place_lt seed (n := 1) (k := 0) (by omega) (by omega)
  unfold shufL
  simp
  omega

set_option maxRecDepth 100000 in
set_option maxHeartbeats 2000000 in
theorem lives_any (w : World) : Calls Tryz.prog 18 #[] w fun e w' => e = .returned (.bool true) ∧ New w w' := by
  go_enter Tryz.func18, Tryz.ntmps18
  go_wp2_with fail
  refine (below_one 1 ⟨#[120]⟩ (by decide) 5 (by omega) w).mono ?_
  rintro e w1 ⟨rfl, hn1⟩
  rw [show (5 : Int) + 1 = 6 by decide]
  have H1 := Lib.hid hn1
  clear hn1
  go_wp2_with fail
  refine (from_any 1 w1 (by omega) (by omega)).mono ?_
  rintro e w2 ⟨v2, rfl, ⟨s2, A2, n2, c2, rfl, hs2, hm2⟩, hn2⟩
  have H2 := Lib.hid (And.intro hs2 (And.intro hm2 (H1.out.new hn2)))
  clear hs2 hm2 hn2 H1
  go_wp2_with fail
  refine (big_one 1 ⟨#[120]⟩ 5 _ w2 ⟨s2, A2, n2, c2, rfl, H2.out.1, H2.out.2.1⟩).mono ?_
  rintro e w3 ⟨rfl, hn3⟩
  have H3 := Lib.hid (H2.out.2.2.new hn3)
  clear hn3 H2
  go_wp2_with fail
  refine Calls.new2 ?_
  intro W4 hb1 hb2 hn4 hz4
  obtain ⟨q, hq⟩ := pick3 1 (ByteArray.mk #[120]).data.toList 5
  have hr4 : Rd W4 (some ⟨w3.heap.size + 1, 0, none⟩) 3 (is [0, 3, 0]) := ⟨rfl, fun _ => ⟨_, rfl, fun j u hu => by rw [Addr.add_lit, Nat.zero_add]; exact hb2.cell j (by simpa [is] using hu)⟩⟩
  refine (pick_any 1 ⟨#[120]⟩ (by decide) 5 (by omega) _ 3 3 [0, 3, 0] W4 hr4 (by omega)).mono ?_
  rw [hq]
  rintro e w5 ⟨rfl, hn5⟩
  have hb6 := hb1.chg hn5 (fun h => h)
  have H5 := Lib.hid (And.intro hb6 (H3.out.new (hn4.new hn5)))
  clear hb1 hb2 hn4 hz4 hq hr4 hn5 hb6 H3
  go_wp2_with fail
  refine (shuffle_any 9 1 (by omega) (by omega) w5).mono ?_
  rintro e w6 ⟨A6, c6, rfl, ho6, hn6⟩
  rw [shuf1] at ho6
  obtain ⟨hb5, hn5⟩ := H5.out
  have hb6 := hb5.chg hn6 (fun h => h)
  have hc0 := hb6.cell 0 (u := .bool false) rfl
  have hc1 := hb6.cell 1 (u := .slice none 0 0) rfl
  have H6 := Lib.hid (And.intro (hn5.new hn6) ho6)
  clear hb5 hn5 hn6 ho6 H5 hb6
  go_wp2_with fail
  refine (sign_any _ 0 w6 (WI.zero _)).mono ?_
  rintro e w7 ⟨rfl, hn7⟩
  rw [show cmpI 0 0 = 0 by decide]
  have H7 := Lib.hid (And.intro (H6.out.1.new hn7) (own_chg H6.out.2 hn7 (fun _ _ h => h)))
  clear hn7 H6 hc0 hc1
  go_wp2_with fail
  have hr8 : Rd (w7.alloc (.cells #[.int .i64 0] 3)) (some ⟨w7.heap.size, 0, none⟩) 1 (is [0]) := Rd.lit (is [0]) rfl
  refine (sameInts_any A6 _ 1 1 c6 1 [0] [0] _ ((Rd.of_own H7.out.2).new ((Chg.refl _ _).alloc _)) hr8 (by omega) (by omega)).mono ?_
  rintro e w8 ⟨rfl, q8, hq8⟩
  rw [show decide (([0] : List Int) = [0]) = true by simp]
  have H8 := Lib.hid (show New w w8 by rw [hq8]; exact (H7.out.1.alloc _).drewN q8)
  clear hr8 hq8
  go_wp2
  go_ret
  exact ⟨rfl, H8.out⟩
end Go.Proofs.YtmpkaimhjdkheaaGreatDoor

namespace Go.Proofs.YtmpkaimhjdkheaaGreatDoor
set_option linter.unusedVariables false
open Go.RowKit Go.Mem Go.Dig Go.Pure

theorem from_b (z : Int) (W : World) (h1 : -9223372036854775808 ≤ z) (h2 : z ≤ 9223372036854775807) :
    Calls Tryz.prog 44 #[.int .i64 z] W fun e w' => ∃ s A n c, e = .returned (.agg #[.bool s, .slice A n c]) ∧ Hid (WI w' (.agg #[.bool s, .slice A n c]) z ∧ New W w') :=
  (from_any z W h1 h2).mono fun e w' ⟨v, h1, ⟨s, A, n, c, h2, h3, h4⟩, h5⟩ => ⟨s, A, n, c, by rw [h1, h2], ⟨s, A, n, c, rfl, h3, h4⟩, h5⟩
theorem powN_two' (k m : Nat) (h : 32 * k = m) : powN k = 2 ^ m := by
  subst h
  unfold powN
  rw [Nat.pow_mul]
theorem powN_le {a b : Nat} (h : a ≤ b) : powN a ≤ powN b := Nat.pow_le_pow_right (by omega) h
theorem run_idx_arr {P : Program} {t e : TypeId} {n : Nat} {cs : Array Value} (k : IntKind) {i : Nat} {u : Value} (W : World) (h : P.underlying t = some (.array n e)) {d : TypeDesc} (he : P.underlying e = some d) (hd : (match d with | .struct _ | .array _ _ => true | _ => false) = false) (hs : (P.info? e).map (·.size) = some 1) (hi : i < n) (hu : cs[i]? = some u) :
    (Instr.index t (.agg cs) (.int k (i : Int))).run P W = .ok u W := by
  have hn : (0 : Int) ≤ (i : Int) ∧ (i : Int) < (n : Int) := by omega
  cases hx : P.info? e with
  | none => rw [hx] at hs; cases hs
  | some x =>
    rw [hx] at hs
    have hs : x.size = 1 := by simpa using hs
    cases d <;> first | (simp at hd; done) | simp [Instr.index, run_underlying h, run_underlying he, asIntOf, part, isAgg, sizeOf, typeInfo, hn, hx, hs, hu] <;> (intro hh; omega)
theorem top_big {n : Nat} (h : n < topN) (m : Nat) (hm : 16384 ≤ m) : ((n : Nat) : Int).natAbs < 2 ^ m := by
  rw [Int.natAbs_natCast]
  refine Nat.lt_of_lt_of_le h ?_
  obtain ⟨K, hK⟩ : ∃ K, 32 * 512 = K := ⟨_, rfl⟩
  rw [show topN = powN 512 from rfl, powN_two' 512 K hK]
  exact Nat.pow_le_pow_right (by omega) (by omega)
theorem wmul_n (v v' : Value) (x y z : Nat) (hz : x * y = z) (w : World) (hx : WI w v (x : Int)) (hy : WI w v' (y : Int)) (bx : x < topN) (bY : y < topN) (bz : z < topN) :
    Calls Tryz.prog 62 #[v, v'] w fun e w' => ∃ s A n c, e = .returned (.tuple #[.agg #[.bool s, .slice A n c], .int .i64 0]) ∧ Hid (WI w' (.agg #[.bool s, .slice A n c]) (z : Int) ∧ New w w') := by
  have h := wmul_any v v' x y w hx hy (top_big bx 1000000 (by decide)) (top_big bY 1000000 (by decide))
  rw [← Int.natCast_mul, hz] at h
  have := rg_in (z := (z : Int)) (by rw [Int.natAbs_natCast]; exact bz)
  rwa [this.1, this.2] at h
theorem wadd_n (v v' : Value) (x y z : Nat) (hz : x + y = z) (w : World) (hx : WI w v (x : Int)) (hy : WI w v' (y : Int)) (bz : z < topN) :
    Calls Tryz.prog 58 #[v, v'] w fun e w' => ∃ s A n c, e = .returned (.tuple #[.agg #[.bool s, .slice A n c], .int .i64 0]) ∧ Hid (WI w' (.agg #[.bool s, .slice A n c]) (z : Int) ∧ New w w') := by
  have h := wadd_any v v' x y w hx hy (top_big (show x < topN by omega) 1000000 (by decide)) (top_big (show y < topN by omega) 1000000 (by decide))
  rw [← Int.natCast_add, hz] at h
  have := rg_in (z := (z : Int)) (by rw [Int.natAbs_natCast]; exact bz)
  rwa [this.1, this.2] at h

/-- The number after j halves. -/
def lfN (X h l j : Nat) : Nat := if j = 0 then X else if j = 1 then X * 4294967296 + h else (X * 4294967296 + h) * 4294967296 + l
theorem lfN_0 (X h l : Nat) : lfN X h l 0 = X := rfl
theorem lfN_1 (X h l : Nat) : lfN X h l 1 = X * 4294967296 + h := by unfold lfN; rw [if_neg (by omega), if_pos rfl]
theorem lfN_2 (X h l : Nat) : lfN X h l 2 = (X * 4294967296 + h) * 4294967296 + l := by unfold lfN; rw [if_neg (by omega), if_neg (by omega)]
theorem lfN_le {X h l j : Nat} (hj : j ≤ 2) : lfN X h l j ≤ lfN X h l 2 := by
  rcases (by omega : j = 0 ∨ j = 1 ∨ j = 2) with rfl | rfl | rfl
  · rw [lfN_0, lfN_2]; omega
  · rw [lfN_1, lfN_2]; omega
  · exact Nat.le_refl _

theorem lf_fin {X d h l Z : Nat} (hZ : X * 18446744073709551616 + d = Z) (hh : d / 4294967296 = h) (hl : d % 4294967296 = l) : lfN X h l 2 = Z := by
  have h1 : d = 4294967296 * h + l := by rw [← hh, ← hl]; exact (Nat.div_add_mod d 4294967296).symm
  rw [lfN_2, ← hZ, h1, Nat.add_mul, Nat.mul_assoc, Nat.mul_comm h, Nat.add_assoc]

set_option maxRecDepth 100000 in
set_option maxHeartbeats 4000000 in
theorem lift_any (v : Value) (X d Z : Nat) (hZ : X * 18446744073709551616 + d = Z) (hb : Z < topN) (hd : d < 18446744073709551616) (w : World) (hv : WI w v (X : Int)) :
    Calls Tryz.prog 32 #[v, .int .u64 d] w fun e w' => ∃ s A n c, e = .returned (.agg #[.bool s, .slice A n c]) ∧ Hid (WI w' (.agg #[.bool s, .slice A n c]) (Z : Int) ∧ New w w') := by
  obtain ⟨s0, A0, n0, c0, rfl, hs0, hm0⟩ := hv
  obtain ⟨h, hh⟩ : ∃ h, d / 4294967296 = h := ⟨_, rfl⟩
  obtain ⟨l, hl⟩ : ∃ l, d % 4294967296 = l := ⟨_, rfl⟩
  have hhi : (d : Int) / 4294967296 = (h : Int) := by omega
  have hli : (d : Int) % 4294967296 = (l : Int) := by omega
  have hhb : h < 4294967296 := by omega
  have hlb : l < 4294967296 := by omega
  have hf : lfN X h l 2 = Z := lf_fin hZ hh hl
  have hand : bits .and .u64 (d : Int) 4294967295 = (l : Int) := by
    rw [show (4294967295 : Int) = ((4294967295 : Nat) : Int) by rfl, u64_and_nat _ _ (by omega) (by omega), show 4294967295 = 2 ^ 32 - 1 by rfl, Nat.and_two_pow_sub_one_eq_mod, ← hl]
  have hx0 : ∀ W, (Instr.index 104 (.agg #[.int .u64 (h : Int), .int .u64 (l : Int)]) (.int .i64 0)).run Tryz.prog W = .ok (.int .u64 (h : Int)) W := fun W => run_idx_arr .i64 (i := 0) W Tryz.underlying104 Tryz.underlying22 rfl (by kernel_rfl) (by decide) rfl
  have hx1 : ∀ W, (Instr.index 104 (.agg #[.int .u64 (h : Int), .int .u64 (l : Int)]) (.int .i64 1)).run Tryz.prog W = .ok (.int .u64 (l : Int)) W := fun W => run_idx_arr .i64 (i := 1) W Tryz.underlying104 Tryz.underlying22 rfl (by kernel_rfl) (by decide) rfl
  have H0 := Lib.hid (And.intro hs0 (And.intro hm0 (And.intro hf hb)))
  clear hs0 hm0 hf hb hZ hh hl hli
  go_enter Tryz.func32, Tryz.ntmps32
  go_wp2_with fail
  refine Code.new2 ?_
  intro W1 hb1 hb2 hn1 hz1
  obtain ⟨g1, hg1⟩ : ∃ x, w.heap.size = x := ⟨_, rfl⟩
  obtain ⟨g2, hg2⟩ : ∃ x, w.heap.size + 1 = x := ⟨_, rfl⟩
  rw [hg1] at hb1
  rw [hg2] at hb2
  simp only [hg2]
  simp only [hg1]
  have hgs : w.heap.size ≤ g1 ∧ g1 < g2 := by omega
  have H1 := Lib.hid (And.intro hb1 (And.intro hb2 (And.intro hn1 hgs)))
  clear hb1 hb2 hn1 hz1 hg1 hg2 hgs hand hhi
  go_loopw [12] (fun i wr => ∃ j : Nat, ∃ s A n c, i = .int .i64 (j : Int) ∧ j ≤ 2 ∧ Hid (Blk wr g1 35 #[.bool s, .slice A n c] ∧ Blk wr g2 35 #[.bool false, .slice none 0 0] ∧ WI wr (.agg #[.bool s, .slice A n c]) ((lfN X h l j : Nat) : Int) ∧ New w wr)) (fun i _ => 2 - (intOf i).toNat)
  case atStart =>
    exact ⟨0, s0, A0, n0, c0, rfl, by omega, H1.out.1, H1.out.2.1, WI.new ⟨s0, A0, n0, c0, rfl, H0.out.1, H0.out.2.1⟩ H1.out.2.2.1, H1.out.2.2.1⟩
  case round =>
    have HG := Lib.hid H1.out.2.2.2
    clear H1
    obtain ⟨j, s, A, n, c, rfl, hj, HI⟩ := hrel
    obtain ⟨wo, rfl⟩ : ∃ wo : World, wo = wr := ⟨_, rfl⟩
    have hc10 := HI.out.1.cell 0 (u := .bool s) rfl
    have hc11 := HI.out.1.cell 1 (u := .slice A n c) rfl
    have hf10 := HI.out.1.frozen 0
    have hf11 := HI.out.1.frozen 1
    by_cases hlt : j < 2
    · obtain ⟨x, hxb, hix, hst⟩ : ∃ x : Nat, x < 4294967296 ∧ (∀ W, (Instr.index 104 (.agg #[.int .u64 (h : Int), .int .u64 (l : Int)]) (.int .i64 (j : Int))).run Tryz.prog W = .ok (.int .u64 (x : Int)) W) ∧ lfN X h l j * 4294967296 + x = lfN X h l (j + 1) := by
        rcases (by omega : j = 0 ∨ j = 1) with rfl | rfl
        · exact ⟨h, hhb, hx0, by rw [lfN_0, lfN_1]⟩
        · exact ⟨l, hlb, hx1, by rw [lfN_1, lfN_2]⟩
      have hle : lfN X h l (j + 1) ≤ Z := by rw [← H0.out.2.2.1]; exact lfN_le (by omega)
      obtain ⟨p, hp⟩ : ∃ p, lfN X h l j * 4294967296 = p := ⟨_, rfl⟩
      have hZt := H0.out.2.2.2
      have HS := Lib.hid (And.intro hp (And.intro (show p + x = lfN X h l (j + 1) by rw [← hp]; exact hst) (And.intro (show lfN X h l j < topN by omega) (And.intro (show p < topN by omega) (show lfN X h l (j + 1) < topN by omega)))))
      have gw : IntKind.i64.wrap (x : Int) = (x : Int) := IntWalk.i64_in _ (by omega)
      have HN0 : Hid (New wo wo.drew) := (Chg.refl _ wo).drew
      have htop : 4294967296 < topN := by exact Nat.lt_of_lt_of_le (show 4294967296 < powN 2 by decide) (powN_le (b := 512) (by omega))
      have HT := Lib.hid htop
      have HX := Lib.hid (And.intro hx0 hx1)
      clear hx0 hx1 hst hle hp hZt htop
      go_wp2_with fail
      go_region_with (first
        | (go_at_call 44; (with_reducible refine (from_b 4294967296 _ (by omega) (by omega)).mono ?_); rintro e w5 ⟨s5, A5, n5, c5, rfl, H5⟩; have HN5 : Hid (New wo w5) := HN0.out.new H5.out.2; have hd10 := HN5.out.cell hc10 (fun h => h); have hd11 := HN5.out.cell hc11 (fun h => h))
        | (go_at_call 62; (with_reducible refine (wmul_n _ _ _ 4294967296 p HS.out.1 _ (HI.out.2.2.1.new HN5.out) H5.out.1 HS.out.2.2.1 HT.out HS.out.2.2.2.1).mono ?_); rintro e w6 ⟨s6, A6, n6, c6, rfl, H6⟩; have HN6 : Hid (New wo w6) := HN5.out.new H6.out.2; have he10 := HN6.out.cell hc10 (fun h => h); have he11 := HN6.out.cell hc11 (fun h => h); have hf10 := (HI.out.1.chg HN6.out (fun h => h)).frozen 0; have hf11 := (HI.out.1.chg HN6.out (fun h => h)).frozen 1))
      all_goals
        clear hc10 hc11 hd10 hd11 he10 he11 hf10 hf11
        have hb6 := HI.out.1.chg HN6.out (fun h => h)
        have hch := Chg.at2 w6 g1 (.bool s6) (.slice A6 n6 c6)
        have hg2 : Blk w6 g2 35 #[.bool false, .slice none 0 0] := HI.out.2.1.chg HN6.out (fun h => h)
        have H7 : Hid (Blk ((w6.setCell ⟨g1, 0, none⟩ (.bool s6)).setCell ⟨g1, 1, none⟩ (.slice A6 n6 c6)) g1 35 #[.bool s6, .slice A6 n6 c6] ∧ Blk ((w6.setCell ⟨g1, 0, none⟩ (.bool s6)).setCell ⟨g1, 1, none⟩ (.slice A6 n6 c6)) g2 35 #[.bool false, .slice none 0 0] ∧ WI ((w6.setCell ⟨g1, 0, none⟩ (.bool s6)).setCell ⟨g1, 1, none⟩ (.slice A6 n6 c6)) (.agg #[.bool s6, .slice A6 n6 c6]) (p : Int) ∧ New w ((w6.setCell ⟨g1, 0, none⟩ (.bool s6)).setCell ⟨g1, 1, none⟩ (.slice A6 n6 c6))) :=
          ⟨hb6.set2 _ _, hg2.chg hch (by have := HG.out; omega), H6.out.1.store hb6 (noInt_two _ _ _ _) hch, Chg.owned (HI.out.2.2.2.new HN6.out) hch (fun k e => by have := HG.out; omega)⟩
        generalize (w6.setCell ⟨g1, 0, none⟩ (.bool s6)).setCell ⟨g1, 1, none⟩ (.slice A6 n6 c6) = w7 at H7 ⊢
        clear hb6 hch hg2 H5 H6 HN5 HN6 HI HN0
        have hc10 := H7.out.1.cell 0 (u := .bool s6) rfl
        have hc11 := H7.out.1.cell 1 (u := .slice A6 n6 c6) rfl
        have HN0 : Hid (New w7 w7.drew) := (Chg.refl _ w7).drew
        go_wp2_with fail
        go_region_with (first
          | (go_at_call 44; (with_reducible refine (from_b (x : Int) _ (by omega) (by omega)).mono ?_); rintro e w8 ⟨s8, A8, n8, c8, rfl, H8⟩; have HN8 : Hid (New w7 w8) := HN0.out.new H8.out.2; have hd10 := HN8.out.cell hc10 (fun h => h); have hd11 := HN8.out.cell hc11 (fun h => h))
          | (go_at_call 58; (with_reducible refine (wadd_n _ _ p x _ HS.out.2.1 _ (H7.out.2.2.1.new HN8.out) H8.out.1 HS.out.2.2.2.2).mono ?_); rintro e w9 ⟨s9, A9, n9, c9, rfl, H9⟩; have HN9 : Hid (New w7 w9) := HN8.out.new H9.out.2; have he10 := HN9.out.cell hc10 (fun h => h); have he11 := HN9.out.cell hc11 (fun h => h); have hf10 := (H7.out.1.chg HN9.out (fun h => h)).frozen 0; have hf11 := (H7.out.1.chg HN9.out (fun h => h)).frozen 1))
        all_goals
          clear hc10 hc11 hd10 hd11 he10 he11 hf10 hf11
          go_wp2
          go_roundw
          case rel =>
            have hb9 := H7.out.1.chg HN9.out (fun h => h)
            have hch := Chg.at2 w9 g1 (.bool s9) (.slice A9 n9 c9)
            exact ⟨j + 1, s9, A9, n9, c9, by go_num, by omega, hb9.set2 _ _, (H7.out.2.1.chg HN9.out (fun h => h)).chg hch (by have := HG.out; omega), H9.out.1.store hb9 (noInt_two _ _ _ _) hch, Chg.owned (H7.out.2.2.2.new HN9.out) hch (fun k e => by have := HG.out; omega)⟩
          case measure => simp [intOf]; omega
    · obtain rfl : j = 2 := by omega
      have hb2 := HI.out.2.1
      have x0 := hb2.cell 0 (u := .bool false) rfl
      have x1 := hb2.cell 1 (u := .slice none 0 0) rfl
      have f0 := hb2.frozen 0
      have f1 := hb2.frozen 1
      have HF := Lib.hid (And.intro hx0 hx1)
      clear hb2 hx0 hx1 hf10 hf11
      go_wp2
      obtain ⟨i1, i2, i3, i4⟩ := HI.out
      rw [H0.out.2.2.1] at i3
      refine bodyPost_ret (res_c rfl _ rfl (aggInt.load (i2.set2 _ _))) rfl ⟨s, A, n, c, rfl, i3.store i2 (noInt_two _ _ _ _) (Chg.at2 _ _ _ _), ?_⟩
      exact Chg.owned i4 (Chg.at2 _ _ _ _) (fun k e => by have := HG.out; omega)
end Go.Proofs.YtmpkaimhjdkheaaGreatDoor

namespace Go.Proofs.YtmpkaimhjdkheaaGreatDoor
set_option linter.unusedVariables false
open Go.RowKit Go.Mem Go.Dig Go.Pure

def p64 (k : Nat) : Nat := 18446744073709551616 ^ k
theorem p64_zero : p64 0 = 1 := rfl
theorem p64_succ (k : Nat) : p64 (k + 1) = p64 k * 18446744073709551616 := Nat.pow_succ _ _
theorem p64_two (k : Nat) : p64 k = 2 ^ (64 * k) := by
  unfold p64
  rw [Nat.pow_mul]
theorem p64_pos (k : Nat) : 1 ≤ p64 k := Nat.pow_pos (by omega)
theorem p64_le {a b : Nat} (h : a ≤ b) : p64 a ≤ p64 b := Nat.pow_le_pow_right (by omega) h
theorem p64_lt {a b : Nat} (h : a < b) : p64 a < p64 b := Nat.pow_lt_pow_right (by omega) h
theorem top_p64 (k : Nat) (hk : k = 256) : topN = p64 k := by
  subst hk
  rw [p64_two, show topN = powN 512 from rfl, powN_two' 512 (64 * 256) (by decide)]
theorem p64_top {k : Nat} (h : k ≤ 255) : p64 k < topN := by
  obtain ⟨K, hK⟩ : ∃ K, K = 256 := ⟨_, rfl⟩
  rw [top_p64 K hK]
  exact p64_lt (by omega)
theorem cmp_le {a b : Nat} : decide (cmpI (a : Int) (b : Int) ≤ 0) = decide (a ≤ b) := by
  unfold cmpI
  split
  · have : a ≤ b := by omega
    simp [this]
  · split
    · have : ¬ a ≤ b := by omega
      simp [this]
    · have : a ≤ b := by omega
      simp [this]

set_option maxRecDepth 100000 in
set_option maxHeartbeats 2000000 in
theorem parts_ok (v : Value) (N k : Nat) (hk : k ≤ 255) (hN : N ≤ p64 k) (hl : ∀ j, j < k → p64 j < N) (w : World) (hv : WI w v (N : Int)) :
    Calls Tryz.prog 28 #[v] w fun e w' => ∃ s A n c, e = .returned (.tuple #[.int .i64 k, .agg #[.bool s, .slice A n c], .bool true]) ∧ Hid (WI w' (.agg #[.bool s, .slice A n c]) ((p64 k : Nat) : Int) ∧ New w w') := by
  obtain ⟨s0, A0, n0, c0, rfl, hs, hm⟩ := hv
  have H := Lib.hid (And.intro hs (And.intro hm (And.intro hN hl)))
  clear hs hm hN hl
  go_enter Tryz.func28, Tryz.ntmps28
  go_wp2_with fail
  refine Calls.new2 ?_
  intro W hb1 hb2 hn hz
  obtain ⟨g1, hg1⟩ : ∃ x, w.heap.size = x := ⟨_, rfl⟩
  obtain ⟨g2, hg2⟩ : ∃ x, w.heap.size + 1 = x := ⟨_, rfl⟩
  rw [hg1] at hb1
  rw [hg2] at hb2
  simp only [hg2]
  simp only [hg1]
  refine (from_b 1 W (by omega) (by omega)).mono ?_
  rintro e w1 ⟨s1, A1, n1, c1, rfl, H1⟩
  have hz1 : W.heap.size ≤ w1.heap.size := H1.out.2.size
  go_wp2_with fail
  refine Code.new1 ?_
  intro W2 hb5 hn5 hz5
  obtain ⟨g5, hg5⟩ : ∃ x, w1.heap.size = x := ⟨_, rfl⟩
  rw [hg5] at hb5
  simp only [hg5]
  have hgs : w.heap.size ≤ g1 ∧ g1 < g2 ∧ g2 < g5 := by omega
  have HG := Lib.hid hgs
  have HB := Lib.hid (And.intro (hb1.chg (H1.out.2.new hn5) (fun h => h)) (And.intro (hb2.chg (H1.out.2.new hn5) (fun h => h)) (And.intro hb5 (And.intro (H1.out.1.new hn5) (hn.new (H1.out.2.new hn5))))))
  clear hb1 hb2 hn hz hg1 hg2 hz1 hb5 hn5 hz5 hg5 hgs H1
  go_loopw [6] (fun i wr => ∃ j : Nat, ∃ s A n c, i = .int .i64 (j : Int) ∧ j ≤ k ∧ Hid (Blk wr g1 35 #[.bool s0, .slice A0 n0 c0] ∧ Blk wr g2 35 #[.bool false, .slice none 0 0] ∧ Blk wr g5 35 #[.bool s, .slice A n c] ∧ WI wr (.agg #[.bool s, .slice A n c]) ((p64 j : Nat) : Int) ∧ New w wr)) (fun i _ => 300 - (intOf i).toNat)
  case atStart => exact ⟨0, s1, A1, n1, c1, rfl, by omega, HB.out⟩
  case round =>
    clear HB
    obtain ⟨j, s, A, n, c, rfl, hj, HI⟩ := hrel
    have hle : (j : Int) ≤ 255 := by omega
    have hc10 := HI.out.1.cell 0 (u := .bool s0) rfl
    have hc11 := HI.out.1.cell 1 (u := .slice A0 n0 c0) rfl
    have hc50 := HI.out.2.2.1.cell 0 (u := .bool s) rfl
    have hc51 := HI.out.2.2.1.cell 1 (u := .slice A n c) rfl
    go_wp2_with fail
    refine (compare_any _ _ (N : Int) ((p64 j : Nat) : Int) wr (WI.new ⟨s0, A0, n0, c0, rfl, H.out.1, H.out.2.1⟩ HI.out.2.2.2.2) HI.out.2.2.2.1).mono ?_
    rintro e w3 ⟨rfl, hn3⟩
    clear hc10 hc11 hc50 hc51
    have hcm := cmp_le (a := N) (b := p64 j)
    generalize cmpI (N : Int) ((p64 j : Nat) : Int) = C at hcm ⊢
    have HJ := Lib.hid (And.intro (HI.out.2.1.chg hn3 (fun h => h)) (And.intro (HI.out.2.2.1.chg hn3 (fun h => h)) (And.intro (HI.out.2.2.2.1.new hn3) (And.intro (HI.out.1.chg hn3 (fun h => h)) (HI.out.2.2.2.2.new hn3)))))
    clear hn3 HI
    have k50 := HJ.out.2.1.cell 0 (u := .bool s) rfl
    have k51 := HJ.out.2.1.cell 1 (u := .slice A n c) rfl
    by_cases hjk : j = k
    · subst hjk
      have hC : C ≤ 0 := by
        have := H.out.2.2.1
        simpa [this] using hcm
      have k20 := HJ.out.1.cell 0 (u := .bool false) rfl
      have k21 := HJ.out.1.cell 1 (u := .slice none 0 0) rfl
      have f20 := HJ.out.1.frozen 0
      have f21 := HJ.out.1.frozen 1
      clear hcm
      go_wp2_with fail
      go_region
      all_goals
        go_wp2
        obtain ⟨i2, i5, i3, i1, i4⟩ := HJ.out
        refine bodyPost_ret (res_tct rfl _ rfl rfl (aggInt.load (Blk.drew (i2.set2 _ _))) rfl) rfl ⟨s, A, n, c, rfl, i3.store i2 (noInt_two _ _ _ _) (Chg.at2 _ _ _ _).drew, ?_⟩
        exact Chg.owned i4 (Chg.at2 _ _ _ _).drew (fun k e => by have := HG.out; omega)
    · have hC : decide (C ≤ 0) = false := by
        rw [hcm]
        have := H.out.2.2.2 j (by omega)
        simp; omega
      have hlt : (j : Int) < 255 := by omega
      clear hcm
      go_wp2_with fail
      refine (lift_any _ (p64 j) 0 (p64 (j + 1)) (by rw [p64_succ, Nat.add_zero]) (p64_top (by omega)) (by decide) _ HJ.out.2.2.1).mono ?_
      rintro e w4 ⟨s4, A4, n4, c4, rfl, H4⟩
      have hb5 := HJ.out.2.1.chg H4.out.2 (fun h => h)
      have x0 := hb5.cell 0 (u := .bool s) rfl
      have x1 := hb5.cell 1 (u := .slice A n c) rfl
      have f0 := hb5.frozen 0
      have f1 := hb5.frozen 1
      have HB5 := Lib.hid hb5
      clear k50 k51 hb5
      go_wp2
      go_roundw
      case rel =>
        have hch := Chg.at2 w4 g5 (.bool s4) (.slice A4 n4 c4)
        exact ⟨j + 1, s4, A4, n4, c4, by go_num, by omega, (HJ.out.2.2.2.1.chg H4.out.2 (fun h => h)).chg hch (by have := HG.out; omega), (HJ.out.1.chg H4.out.2 (fun h => h)).chg hch (by have := HG.out; omega), HB5.out.set2 _ _, H4.out.1.store HB5.out (noInt_two _ _ _ _) hch, Chg.owned (HJ.out.2.2.2.2.new H4.out.2) hch (fun k e => by have := HG.out; omega)⟩
      case measure => simp [intOf]; omega
set_option maxRecDepth 100000 in
set_option maxHeartbeats 2000000 in
theorem parts_no (v : Value) (N : Nat) (hN : p64 255 < N) (w : World) (hv : WI w v (N : Int)) :
    Calls Tryz.prog 28 #[v] w fun e w' => e = .returned (.tuple #[.int .i64 0, .agg #[.bool false, .slice none 0 0], .bool false]) ∧ New w w' := by
  obtain ⟨s0, A0, n0, c0, rfl, hs, hm⟩ := hv
  have H := Lib.hid (And.intro hs (And.intro hm hN))
  clear hs hm hN
  go_enter Tryz.func28, Tryz.ntmps28
  go_wp2_with fail
  refine Calls.new2 ?_
  intro W hb1 hb2 hn hz
  obtain ⟨g1, hg1⟩ : ∃ x, w.heap.size = x := ⟨_, rfl⟩
  obtain ⟨g2, hg2⟩ : ∃ x, w.heap.size + 1 = x := ⟨_, rfl⟩
  rw [hg1] at hb1
  rw [hg2] at hb2
  simp only [hg2]
  simp only [hg1]
  refine (from_b 1 W (by omega) (by omega)).mono ?_
  rintro e w1 ⟨s1, A1, n1, c1, rfl, H1⟩
  have hz1 : W.heap.size ≤ w1.heap.size := H1.out.2.size
  go_wp2_with fail
  refine Code.new1 ?_
  intro W2 hb5 hn5 hz5
  obtain ⟨g5, hg5⟩ : ∃ x, w1.heap.size = x := ⟨_, rfl⟩
  rw [hg5] at hb5
  simp only [hg5]
  have hgs : w.heap.size ≤ g1 ∧ g1 < g2 ∧ g2 < g5 := by omega
  have HG := Lib.hid hgs
  have HB := Lib.hid (And.intro (hb1.chg (H1.out.2.new hn5) (fun h => h)) (And.intro (hb2.chg (H1.out.2.new hn5) (fun h => h)) (And.intro hb5 (And.intro (H1.out.1.new hn5) (hn.new (H1.out.2.new hn5))))))
  clear hb1 hb2 hn hz hg1 hg2 hz1 hb5 hn5 hz5 hg5 hgs H1
  go_loopw [6] (fun i wr => ∃ j : Nat, ∃ s A n c, i = .int .i64 (j : Int) ∧ j ≤ 256 ∧ Hid (Blk wr g1 35 #[.bool s0, .slice A0 n0 c0] ∧ Blk wr g2 35 #[.bool false, .slice none 0 0] ∧ Blk wr g5 35 #[.bool s, .slice A n c] ∧ WI wr (.agg #[.bool s, .slice A n c]) ((p64 (min j 255) : Nat) : Int) ∧ New w wr)) (fun i _ => 300 - (intOf i).toNat)
  case atStart => exact ⟨0, s1, A1, n1, c1, rfl, by omega, HB.out⟩
  case round =>
    clear HB
    obtain ⟨j, s, A, n, c, rfl, hj, HI⟩ := hrel
    by_cases hle : (j : Int) ≤ 255
    · obtain ⟨j', hj'⟩ : ∃ j', min j 255 = j' := ⟨_, rfl⟩
      rw [hj'] at HI
      have hjj : j' = j := by omega
      have hc10 := HI.out.1.cell 0 (u := .bool s0) rfl
      have hc11 := HI.out.1.cell 1 (u := .slice A0 n0 c0) rfl
      have hc50 := HI.out.2.2.1.cell 0 (u := .bool s) rfl
      have hc51 := HI.out.2.2.1.cell 1 (u := .slice A n c) rfl
      go_wp2_with fail
      refine (compare_any _ _ (N : Int) ((p64 j' : Nat) : Int) wr (WI.new ⟨s0, A0, n0, c0, rfl, H.out.1, H.out.2.1⟩ HI.out.2.2.2.2) HI.out.2.2.2.1).mono ?_
      rintro e w3 ⟨rfl, hn3⟩
      clear hc10 hc11 hc50 hc51
      have hcm := cmp_le (a := N) (b := p64 j')
      generalize cmpI (N : Int) ((p64 j' : Nat) : Int) = C at hcm ⊢
      have HJ := Lib.hid (And.intro (HI.out.2.1.chg hn3 (fun h => h)) (And.intro (HI.out.2.2.1.chg hn3 (fun h => h)) (And.intro (HI.out.2.2.2.1.new hn3) (And.intro (HI.out.1.chg hn3 (fun h => h)) (HI.out.2.2.2.2.new hn3)))))
      clear hn3 HI
      have k50 := HJ.out.2.1.cell 0 (u := .bool s) rfl
      have k51 := HJ.out.2.1.cell 1 (u := .slice A n c) rfl
      have hC : decide (C ≤ 0) = false := by
        rw [hcm]
        have := Nat.lt_of_le_of_lt (p64_le (show j' ≤ 255 by omega)) H.out.2.2
        simp; omega
      clear hcm
      by_cases h255 : (j : Int) < 255
      · go_wp2_with fail
        refine (lift_any _ (p64 j') 0 (p64 (j' + 1)) (by rw [p64_succ, Nat.add_zero]) (p64_top (by omega)) (by decide) _ HJ.out.2.2.1).mono ?_
        rintro e w4 ⟨s4, A4, n4, c4, rfl, H4⟩
        have hb5 := HJ.out.2.1.chg H4.out.2 (fun h => h)
        have x0 := hb5.cell 0 (u := .bool s) rfl
        have x1 := hb5.cell 1 (u := .slice A n c) rfl
        have f0 := hb5.frozen 0
        have f1 := hb5.frozen 1
        have HB5 := Lib.hid hb5
        clear k50 k51 hb5
        go_wp2
        go_roundw
        case rel =>
          have hch := Chg.at2 w4 g5 (.bool s4) (.slice A4 n4 c4)
          exact ⟨j + 1, s4, A4, n4, c4, by go_num, by omega, (HJ.out.2.2.2.1.chg H4.out.2 (fun h => h)).chg hch (by have := HG.out; omega), (HJ.out.1.chg H4.out.2 (fun h => h)).chg hch (by have := HG.out; omega), HB5.out.set2 _ _, (by rw [show min (j + 1) 255 = j' + 1 by omega]; exact H4.out.1.store HB5.out (noInt_two _ _ _ _) hch), Chg.owned (HJ.out.2.2.2.2.new H4.out.2) hch (fun k e => by have := HG.out; omega)⟩
        case measure => simp [intOf]; omega
      · have h255' : decide ((j : Int) < 255) = false := by simp; omega
        go_wp2
        go_roundw
        case rel => exact ⟨j + 1, s, A, n, c, by go_num, by omega, HJ.out.2.2.2.1, HJ.out.1, HJ.out.2.1, (by rw [show min (j + 1) 255 = j' by omega]; exact HJ.out.2.2.1), HJ.out.2.2.2.2⟩
        case measure => simp [intOf]; omega
    · have hle' : decide ((j : Int) ≤ 255) = false := by simp; omega
      have k20 := HI.out.2.1.cell 0 (u := .bool false) rfl
      have k21 := HI.out.2.1.cell 1 (u := .slice none 0 0) rfl
      have f20 := HI.out.2.1.frozen 0
      have f21 := HI.out.2.1.frozen 1
      go_wp2
      obtain ⟨i1, i2, i5, i3, i4⟩ := HI.out
      refine bodyPost_ret (res_tct rfl _ rfl rfl (aggInt.load (i2.set2 _ _)) rfl) rfl ⟨rfl, ?_⟩
      exact Chg.owned i4 (Chg.at2 _ _ _ _) (fun k e => by have := HG.out; omega)

end Go.Proofs.YtmpkaimhjdkheaaGreatDoor

namespace Go.Proofs.YtmpkaimhjdkheaaGreatDoor
set_option linter.unusedVariables false
open Go.RowKit Go.Mem Go.Dig Go.Pure
theorem pow_le3 (a b : Nat) (h : a ≤ b) : 2 ^ a ≤ 2 ^ b := Nat.pow_le_pow_right (by omega) h

/-- The words of a stream from an index on, as digits. -/
def wordsL (seed : Int) (lab : List UInt8) (at_ : Int) (k : Nat) : List Nat := (List.range k).map (fun e : Nat => (wordI seed lab (at_ + e)).toNat)
theorem wordsL_len (seed : Int) (lab : List UInt8) (at_ : Int) (k : Nat) : (wordsL seed lab at_ k).length = k := by simp [wordsL]
theorem wordsL_at (seed : Int) (lab : List UInt8) (at_ : Int) {k e : Nat} (h : e < k) : (wordsL seed lab at_ k)[e]? = some (wordI seed lab (at_ + e)).toNat := by
  unfold wordsL
  rw [List.getElem?_map, List.getElem?_range h]
  rfl
theorem wordI_range (seed : Int) (lab : List UInt8) (i : Int) : 0 ≤ wordI seed lab i ∧ wordI seed lab i ≤ 18446744073709551615 := sumI_range' _ _
theorem wordsL_digs (seed : Int) (lab : List UInt8) (at_ : Int) (k : Nat) : Digs 18446744073709551616 (wordsL seed lab at_ k) := by
  intro d hd
  obtain ⟨e, _, rfl⟩ := List.mem_map.1 hd
  have := wordI_range seed lab (at_ + e)
  omega
theorem words_big {l : List Nat} (h : Digs 18446744073709551616 l) (hl : l.length ≤ 300) : ((val 18446744073709551616 l : Nat) : Int).natAbs < 2 ^ 1000000 := by
  rw [Int.natAbs_natCast]
  refine Nat.lt_of_lt_of_le (val_lt h) ?_
  rw [show 18446744073709551616 = 2 ^ 64 from rfl, ← Nat.pow_mul]
  exact pow_le3 _ 1000000 (by omega)
theorem words_big64 {l : List Nat} (h : Digs 18446744073709551616 l) (hl : l.length ≤ 300) : ((val 18446744073709551616 l : Int) * ((2 ^ 64 : Nat) : Int)).natAbs < 2 ^ 1000000 := by
  rw [← Int.natCast_mul, Int.natAbs_natCast]
  have h1 := val_lt h
  rw [show 18446744073709551616 = 2 ^ 64 from rfl, ← Nat.pow_mul] at h1
  refine Nat.lt_of_lt_of_le (Nat.mul_lt_mul_of_pos_right h1 (by decide)) ?_
  rw [← Nat.pow_add]
  exact pow_le3 _ 1000000 (by omega)

/-- Which try is taken: the first whose number is below the bound, at most 64 of them. -/
structure Taken (X : Nat → Nat) (bound t : Nat) : Prop where
  le : t ≤ 63
  skip : ∀ j, j < t → ¬ X j < bound
  stop : X t < bound ∨ t = 63
theorem Taken.uniq {X : Nat → Nat} {b t u : Nat} (h : Taken X b t) (h' : Taken X b u) : t = u := by
  rcases Nat.lt_trichotomy t u with h1 | h1 | h1
  · rcases h.stop with h2 | h2
    · exact absurd h2 (h'.skip t h1)
    · have := h'.le; omega
  · exact h1
  · rcases h'.stop with h2 | h2
    · exact absurd h2 (h.skip u h1)
    · have := h.le; omega
/-- The number that k words from try t on lead to. -/
def tryN (seed : Int) (lab : List UInt8) (i : Int) (k : Nat) (t : Nat) : Nat := val 18446744073709551616 (wordsL seed lab (i + (t * k : Nat)) k)
theorem pow_lt_K (a K : Nat) (h : a < K) : 2 ^ a < 2 ^ K := Nat.pow_lt_pow_right (by omega) h
theorem tryN_big (seed : Int) (lab : List UInt8) (i : Int) {k : Nat} (hk : k ≤ 300) (t : Nat) : ((tryN seed lab i k t : Nat) : Int).natAbs < 2 ^ 1000000 := words_big (wordsL_digs _ _ _ _) (by rw [wordsL_len]; exact hk)

end Go.Proofs.YtmpkaimhjdkheaaGreatDoor

namespace Go.Proofs.YtmpkaimhjdkheaaGreatDoor
set_option linter.unusedVariables false
open Go.RowKit Go.Shelf Go.Mem Go.Dig Go.Pure
attribute [local go_sem] Oper.semAt_some

theorem WM.kept {W W' : World} {row : Option Nat} {A : Option Addr} {n c m : Nat} (h : WM W A n c m) (hg : W.grownBy W' row) (hr : ∀ r, row = some r → ∃ o : Obj, W.heap[r]? = some o ∧ o.isCells = false) : WM W' A n c m := by
  obtain ⟨l, h1, h2⟩ := h
  exact ⟨l, rd_kept h1 hg hr, h2⟩
theorem WI.kept {W W' : World} {row : Option Nat} {v : Value} {z : Int} (h : WI W v z) (hg : W.grownBy W' row) (hr : ∀ r, row = some r → ∃ o : Obj, W.heap[r]? = some o ∧ o.isCells = false) : WI W' v z := by
  obtain ⟨s, A, n, c, h1, h2, h3⟩ := h
  exact ⟨s, A, n, c, h1, h2, h3.kept hg hr⟩
/-- The blocks of S change, and new ones are made. -/
def Rest (S : List Nat) (N : Nat) (b : Nat) : Prop := b < N ∧ b ∉ S
theorem WI.rest {w1 W : World} {S : List Nat} {v : Value} {z : Int} (h : WI w1 v z) (hk : Keep (Rest S w1.heap.size) w1 W) (hS : ∀ g ∈ S, ∃ t cs, Blk w1 g t cs ∧ ∀ d : Int, Value.int .u32 d ∉ cs.toList) : WI W v z := by
  obtain ⟨s, A, n, c, rfl, hs, l, hr, h3⟩ := h
  refine ⟨s, A, n, c, rfl, hs, l, ?_, h3⟩
  rcases Nat.eq_zero_or_pos n with h0 | h0
  · subst h0; exact ⟨hr.1, fun h => absurd h (by omega)⟩
  · refine hk.rd hr (fun b hb => ?_)
    obtain ⟨ad, u, rfl, hu, hc⟩ := hr.at_ h0
    have hb' : ad.block = b := by simpa [blk] using hb
    have hlt := World.block_lt_of_cell? w1 _ hc
    rw [block_add] at hlt
    refine ⟨by omega, fun hm => ?_⟩
    obtain ⟨t, cs, hB, hn⟩ := hS b hm
    refine hr.apart hB (fun u hu => ?_) h0 hb
    unfold nv at hu
    obtain ⟨d, _, rfl⟩ := List.mem_map.1 hu
    exact hn _
theorem WI.far {w w' : World} {v : Value} {z : Int} {g : Nat} {t : TypeId} {cs : Array Value} (h : WI w v z) (hb : Blk w g t cs) (hne : ∀ d : Int, Value.int .u32 d ∉ cs.toList) (hc : Chg (fun b => b = g) w w') : WI w' v z := by
  obtain ⟨s, A, n, c, rfl, hs, l, hr, h3⟩ := h
  refine ⟨s, A, n, c, rfl, hs, l, hr.store hb (fun u hu => ?_) hc, h3⟩
  unfold nv at hu
  obtain ⟨d, _, rfl⟩ := List.mem_map.1 hu
  exact hne _
theorem KeepsOthers.of_chg1 {V V' : World} {g : Nat} {t : TypeId} {cs : Array Value} (hb : Blk V g t cs) (h : Chg (fun b => b = g) V V') : KeepsOthers V V' :=
  ⟨h.size, fun k o hk ho => h.heap hk (fun e => by
    subst e
    unfold Blk at hb
    rw [hb] at hk
    cases hk
    simp [Obj.isCells] at ho)⟩
theorem New.keepsO {W W' : World} (h : New W W') : KeepsOthers W W' := ⟨h.size, fun k o hk _ => h.heap hk (fun h => h)⟩
theorem own_cut0 {w : World} {base : Nat} {e : TypeId} {A : Option Addr} {n c : Nat} {xs : List Value} (h : w.ownsRow base e 1 (.slice A n c) n xs) : w.ownsRow base e 1 (.slice A 0 c) 0 [] := by
  refine ⟨rfl, ?_⟩
  rcases h.2 with ⟨hv, _⟩ | ⟨g, cap, cur, hv, h1, h2, h3, h4, h5, h6⟩
  · injection hv with a b c; subst a c; exact .inl ⟨rfl, rfl⟩
  · injection hv with a b c; subst a c
    exact .inr ⟨g, _, cur, rfl, h1, h2, Nat.zero_le _, h4, h5, by simp⟩
theorem wordsL_succ (seed : Int) (lab : List UInt8) (a : Int) (j d : Nat) (h : wordI seed lab (a + (j : Nat)) = (d : Int)) : wordsL seed lab a (j + 1) = wordsL seed lab a j ++ [d] := by
  unfold wordsL
  rw [List.range_succ, List.map_append]
  simp only [List.map_cons, List.map_nil]
  rw [h, Int.toNat_natCast]
theorem sub_mod_i {M N : Nat} : ((M : Int) - (M : Int) % (N : Int)) = ((M - M % N : Nat) : Int) := by
  rw [← Int.natCast_emod, Int.ofNat_sub (Nat.mod_le _ _)]

/-- What holds ahead of each word. -/
def BigI (seed : Int) (s : ByteArray) (i : Int) (k bd : Nat) (w w1 : World) (g8 g9 g10 g19 g20 : Nat) (pre : List Nat) (W : World) : Prop :=
  ∃ t j A c, pre.length = t * k + j ∧ j < k ∧ t < 64 ∧ (∀ u, u < t → ¬ tryN seed s.data.toList i k u < bd) ∧ Keep (Rest [g8, g9, g10, g19, g20] w1.heap.size) w1 W ∧
    Blk W g8 35 #[.bool false, .slice none 0 0] ∧ Blk W g9 3 #[.int .i64 0] ∧ Blk W g10 36 #[.int .i64 0] ∧ Blk W g19 3 #[.int .i64 (t : Int)] ∧ Blk W g20 66 #[.slice A j c] ∧
    W.ownsRow w1.heap.size 22 1 (.slice A j c) j (nv .u64 (wordsL seed s.data.toList (i + (t * k : Nat)) j)) ∧ Below w.heap.size w W ∧ w1.heap.size ≤ W.heap.size
/-- What holds where the number has been taken. -/
def BigX (seed : Int) (s : ByteArray) (i : Int) (k bd N : Nat) (w : World) (g8 g9 g10 : Nat) (c : Code) (_pre : List Nat) (W : World) : Prop :=
  c = .ret ∧ ∃ t sr Ar nr cr, Taken (tryN seed s.data.toList i k) bd t ∧ Blk W g8 35 #[.bool sr, .slice Ar nr cr] ∧ WI W (.agg #[.bool sr, .slice Ar nr cr]) ((tryN seed s.data.toList i k t % N : Nat) : Int) ∧
    Blk W g9 3 #[.int .i64 (i + (t * k : Nat) + (k : Int))] ∧ Blk W g10 36 #[.int .i64 0] ∧ Below w.heap.size w W

set_option maxRecDepth 100000 in
set_option maxHeartbeats 4000000 in
theorem big_ok (seed : Int) (s : ByteArray) (hs : s.size ≤ 1000000) (i : Int) (hi : 0 ≤ i ∧ i ≤ 100000000) (v : Value) (N k : Nat) (hk1 : 1 ≤ k) (hk : k ≤ 255) (hN1 : 1 ≤ N) (hN : N ≤ p64 k) (hl : ∀ j, j < k → p64 j < N) (w : World) (hv : WI w v (N : Int)) :
    Calls Tryz.prog 13 #[.int .u64 seed, .string s, .int .i64 i, v] w fun e w' => ∃ sr Ar nr cr t, e = .returned (.tuple #[.agg #[.bool sr, .slice Ar nr cr], .int .i64 (i + (t * k : Nat) + (k : Int)), .int .i64 0]) ∧
      Hid (Taken (tryN seed s.data.toList i k) (p64 k - p64 k % N) t ∧ WI w' (.agg #[.bool sr, .slice Ar nr cr]) ((tryN seed s.data.toList i k t % N : Nat) : Int) ∧ New w w') := by
  obtain ⟨s0, A0, n0, c0, rfl, hs0, hm0⟩ := hv
  have hv0 : WI w (.agg #[.bool s0, .slice A0 n0 c0]) (N : Int) := ⟨s0, A0, n0, c0, rfl, hs0, hm0⟩
  have HV := Lib.hid (And.intro hv0 (And.intro hN hl))
  obtain ⟨bd, hbd⟩ : ∃ bd, p64 k - p64 k % N = bd := ⟨_, rfl⟩
  rw [hbd]
  have HBD := Lib.hid hbd
  clear hs0 hm0 hv0 hN hl hbd
  refine (callsIn_wide (n := 10)).1 ?_
  refine callsIn_of_wp_marks Tryz.func13 rfl trivial ?_ rfl
  simp only [Tryz.ntmps13, List.size_toArray, List.length_cons, List.length_nil, Nat.reduceAdd, Nat.reduceSub, Array.replicate_succ, Array.replicate_zero, List.push_toArray, List.append_toArray, List.nil_append, List.cons_append]
  gi_wp2
  refine ⟨trivial, callsIn_wide.2 (Calls.new4 ?_)⟩
  intro W hb7 hb8 hb9 hb10 hn hz
  obtain ⟨g7, hg7⟩ : ∃ x, w.heap.size = x := ⟨_, rfl⟩
  obtain ⟨g8, hg8⟩ : ∃ x, w.heap.size + 1 = x := ⟨_, rfl⟩
  obtain ⟨g9, hg9⟩ : ∃ x, w.heap.size + 1 + 1 = x := ⟨_, rfl⟩
  obtain ⟨g10, hg10⟩ : ∃ x, w.heap.size + 1 + 1 + 1 = x := ⟨_, rfl⟩
  rw [hg7] at hb7
  rw [hg8] at hb8
  rw [hg9] at hb9
  rw [hg10] at hb10
  simp only [hg10]
  simp only [hg9]
  simp only [hg8]
  simp only [hg7]
  have hgs : w.heap.size ≤ g7 ∧ g7 < g8 ∧ g8 < g9 ∧ g9 < g10 ∧ g10 < W.heap.size := by omega
  have H1 := Lib.hid (And.intro hb7 (And.intro hb8 (And.intro hb9 (And.intro hb10 (And.intro (HV.out.1.new hn) (And.intro hn hgs))))))
  clear hb7 hb8 hb9 hb10 hn hz hg7 hg8 hg9 hg10 hgs
  refine (sign_any _ (N : Int) W H1.out.2.2.2.2.1).mono ?_
  rintro e w1 ⟨rfl, hn1⟩
  have hsg : cmpI (N : Int) 0 = 1 := cmpI_gt (by omega)
  rw [hsg]
  have hc0 := (H1.out.1.chg hn1 (fun h => h)).cell 0 (u := .bool s0) rfl
  have hc1 := (H1.out.1.chg hn1 (fun h => h)).cell 1 (u := .slice A0 n0 c0) rfl
  have HN1 := Lib.hid hn1
  clear hn1 hsg
  gi_wp2
  refine ⟨trivial, callsIn_wide.2 ?_⟩
  refine (parts_ok _ N k hk HV.out.2.1 HV.out.2.2 w1 (H1.out.2.2.2.2.1.new HN1.out)).mono ?_
  rintro e w2 ⟨s2, A2, n2, c2, rfl, H2⟩
  have hk0 : ((k : Int) == 0) = false := by simp; omega
  clear hc0 hc1
  have hn02 : New W ((w2.alloc (.cells #[.int .i64 (k : Int)] 3)).alloc (.cells #[.bool s2, .slice A2 n2 c2] 35)) := ((HN1.out.new H2.out.2).alloc _).alloc _
  have hc0 := (H1.out.1.chg hn02 (fun h => h)).cell 0 (u := .bool s0) rfl
  have hc1 := (H1.out.1.chg hn02 (fun h => h)).cell 1 (u := .slice A0 n0 c0) rfl
  clear hn02
  gi_wp2
  refine ⟨trivial, callsIn_wide.2 (Calls.new2 ?_)⟩
  clear hc0 hc1
  intro W3 hb11 hb12 hn3 hz3
  obtain ⟨g11, hg11⟩ : ∃ x, w2.heap.size = x := ⟨_, rfl⟩
  obtain ⟨g12, hg12⟩ : ∃ x, w2.heap.size + 1 = x := ⟨_, rfl⟩
  rw [hg11] at hb11
  rw [hg12] at hb12
  simp only [hg12]
  simp only [hg11]
  have hnW3 : New W W3 := HN1.out.new (H2.out.2.new hn3)
  have hgs3 : W.heap.size ≤ g11 ∧ g11 < g12 ∧ g12 < W3.heap.size := by have := HN1.out.size; have := H2.out.2.size; omega
  have H3 := Lib.hid (And.intro hb11 (And.intro hb12 (And.intro hnW3 (And.intro hgs3 (H2.out.1.new hn3)))))
  clear hb11 hb12 hn3 hz3 hg11 hg12 hnW3 hgs3 H2 HN1
  refine (wdiv_any _ _ ((p64 k : Nat) : Int) (N : Int) W3 H3.out.2.2.2.2 (H1.out.2.2.2.2.1.new H3.out.2.2.1) (top_big (p64_top hk) 900000 (by decide)) (top_big (Nat.lt_of_le_of_lt HV.out.2.1 (p64_top hk)) 900000 (by decide)) (by omega)).mono ?_
  rintro e w4 ⟨s4, A4, n4, c4, s5, A5, n5, c5, rfl, H4⟩
  have hn04 : New W3 ((w4.alloc (.cells #[.bool s4, .slice A4 n4 c4] 35)).alloc (.cells #[.bool s5, .slice A5 n5 c5] 35)) := (H4.out.2.2.alloc _).alloc _
  have hc0 := (H3.out.2.1.chg hn04 (fun h => h)).cell 0 (u := .bool s2) rfl
  have hc1 := (H3.out.2.1.chg hn04 (fun h => h)).cell 1 (u := .slice A2 n2 c2) rfl
  clear hn04
  gi_wp2
  refine ⟨trivial, callsIn_wide.2 (Calls.new2 ?_)⟩
  clear hc0 hc1
  intro W5 hb14 hb15 hn5 hz5
  obtain ⟨g14, hg14⟩ : ∃ x, w4.heap.size = x := ⟨_, rfl⟩
  obtain ⟨g15, hg15⟩ : ∃ x, w4.heap.size + 1 = x := ⟨_, rfl⟩
  simp only [hg15]
  simp only [hg14]
  have hnW5 : New W3 W5 := H4.out.2.2.new hn5
  have H5 := Lib.hid (And.intro hnW5 (And.intro (H4.out.2.1.new hn5) (H3.out.2.2.2.2.new hnW5)))
  clear hb14 hb15 hn5 hz5 hg14 hg15 hnW5 H4
  have hsub := wsub_any _ _ _ _ W5 H5.out.2.2 H5.out.2.1 (top_big (p64_top hk) 1000000 (by decide)) (by rw [← Int.natCast_emod]; exact top_big (Nat.lt_of_le_of_lt (Nat.mod_le _ _) (p64_top hk)) 1000000 (by decide))
  rw [sub_mod_i, HBD.out] at hsub
  have hbt : bd < topN := Nat.lt_of_le_of_lt (by rw [← HBD.out]; exact Nat.sub_le _ _) (p64_top hk)
  have hrg := rg_in (z := (bd : Int)) (by rw [Int.natAbs_natCast]; exact hbt)
  rw [hrg.1, hrg.2] at hsub
  have HSUB := Lib.hid hsub
  clear hsub hbt hrg
  refine HSUB.out.mono ?_
  rintro e w6 ⟨s6, A6, n6, c6, rfl, H6⟩
  clear HSUB
  gi_wp2
  refine ⟨trivial, callsIn_wide.2 (Calls.new3 ?_)⟩
  intro W7 hb17 hb19 hb20 hn7 hz7
  obtain ⟨g17, hg17⟩ : ∃ x, w6.heap.size = x := ⟨_, rfl⟩
  obtain ⟨g19, hg19⟩ : ∃ x, w6.heap.size + 1 = x := ⟨_, rfl⟩
  obtain ⟨g20, hg20⟩ : ∃ x, w6.heap.size + 1 + 1 = x := ⟨_, rfl⟩
  rw [hg17] at hb17
  rw [hg19] at hb19
  rw [hg20] at hb20
  simp only [hg20]
  simp only [hg19]
  simp only [hg17]
  refine (stream_any seed s i W7).mono ?_
  rintro e w8 ⟨rfl, hs1, hs2, hs3, hn8, hz8⟩
  obtain ⟨B, hB⟩ : ∃ B, W7.heap.size = B := ⟨_, rfl⟩
  rw [hB] at hs1 hs2 hs3 hz8 ⊢
  have hn38 : New W3 w8 := H5.out.1.new (H6.out.2.new (hn7.new hn8))
  have hn08 : New W w8 := H3.out.2.2.1.new hn38
  have hgs8 : g12 < g17 ∧ g17 < g19 ∧ g19 < g20 ∧ g20 < B ∧ B + 3 = w8.heap.size := by
    have := H5.out.1.size; have := H6.out.2.size; have := H3.out.2.2.2.1; omega
  have H8 := Lib.hid (And.intro (H1.out.1.chg hn08 (fun h => h)) (And.intro (H1.out.2.1.chg hn08 (fun h => h)) (And.intro (H1.out.2.2.1.chg hn08 (fun h => h)) (And.intro (H1.out.2.2.2.1.chg hn08 (fun h => h)) (And.intro (H3.out.1.chg hn38 (fun h => h)) (And.intro (hb17.chg hn8 (fun h => h)) (And.intro (hb19.chg hn8 (fun h => h)) (hb20.chg hn8 (fun h => h)))))))))
  have HM := Lib.hid (And.intro (H1.out.2.2.2.2.1.new hn08) (H6.out.1.new (hn7.new hn8)))
  have HG := Lib.hid (And.intro H1.out.2.2.2.2.2.2 (And.intro H3.out.2.2.2.1 hgs8))
  have HNW := Lib.hid (H1.out.2.2.2.2.2.1.new hn08)
  have HSQ := Lib.hid (And.intro hs1 (And.intro hs2 hs3))
  clear hb17 hb19 hb20 hn7 hz7 hg17 hg19 hg20 hs1 hs2 hs3 hn8 hz8 hB hn38 hn08 hgs8 H1 H3 H5 H6
  gi_wp2
  have hSS : ∀ g ∈ [g8, g9, g10, g19, g20], ∃ t cs, Blk w8 g t cs ∧ ∀ d : Int, Value.int .u32 d ∉ cs.toList := by
    obtain ⟨h7, h8, h9, h10, h11, h17, h19, h20⟩ := H8.out
    intro g hg
    simp only [List.mem_cons, List.not_mem_nil, or_false] at hg
    rcases hg with rfl | rfl | rfl | rfl | rfl
    · exact ⟨_, _, h8, fun d h => by simp at h⟩
    · exact ⟨_, _, h9, fun d h => by simp at h⟩
    · exact ⟨_, _, h10, fun d h => by simp at h⟩
    · exact ⟨_, _, h19, fun d h => by simp at h⟩
    · exact ⟨_, _, h20, fun d h => by simp at h⟩
  have HSS := Lib.hid hSS
  have hI := Lib.hid hi
  clear hSS
  refine wpIn_rangeB rfl (by omega) (gf := 60) rfl trivial (enters_of Tryz.func60 (by kernel_rfl) rfl)
    (stream_seq 9 (by omega) _ seed s hs i ⟨hI.out.1, by have := hI.out.2; omega⟩ 20000 (by omega) w8 HSQ.out.1 HSQ.out.2.1 HSQ.out.2.2) (fun h h' => Keep.trans h h') ?kb (fun _ => rfl) (fun _ _ => Stab.const _ _) (fun _ => Stab.const _ _) (fun _ => Stab.const _ _)
    (BigI seed s i k bd w w8 g8 g9 g10 g19 g20)
    ?hIB
    (BigX seed s i k bd N w g8 g9 g10) ?hI ?hIx
    ?h0 ?a1 ?assign ?body ?done ?stop
  case assign =>
    intro l x W K hK
    unfold strE
    gi_wp2
    exact hK
  case hIB =>
    rintro pre W ⟨t, j, A, c, h1, h2, h3, _⟩
    have : t * k ≤ 63 * 255 := Nat.mul_le_mul (by omega) hk
    show pre.length < 20000
    omega
  case h0 =>
    obtain ⟨h7, h8, h9, h10, h11, h17, h19, h20⟩ := H8.out
    exact ⟨0, 0, none, 0, by simp, by omega, by omega, fun u hu => by omega, Keep.refl _ _, h8, h9, h10, h19, h20, World.ownsRow_nil w8 w8.heap.size _ _, New.below HNW.out, Nat.le_refl _⟩
  case kb =>
    intro W l o o' hl ho hoc b hb
    refine World.putObj_heap_other ?_
    have := HG.out
    rcases hb with rfl | rfl | rfl <;> omega
  case hI =>
    rintro pre W W' row ⟨t, j, A, c, q1, q2, q3, q4, q5, q6, q7, q8, q9, q10, q11, q12, q13⟩ hg hr
    refine ⟨t, j, A, c, q1, q2, q3, q4, ?_, blk_kept q6 hg (fun r e => (hr r e).2), blk_kept q7 hg (fun r e => (hr r e).2), blk_kept q8 hg (fun r e => (hr r e).2), blk_kept q9 hg (fun r e => (hr r e).2), blk_kept q10 hg (fun r e => (hr r e).2), row_kept q11 hg (fun r e => (hr r e).2), q12.grown hg q12.size (fun b e => by have := (hr b e).1; have := HNW.out.size; omega), Nat.le_trans q13 hg.size⟩
    intro b hb
    exact (hg.block b (Nat.lt_of_lt_of_le hb.1 q13) (fun e => by have := (hr b e.symm).1; have := hb.1; omega)).trans (q5 b hb)
  case hIx =>
    rintro c pre W W' row ⟨q1, t, sr, Ar, nr, cr, q2, q3, q4, q5, q6, q7⟩ hg hr
    exact ⟨q1, t, sr, Ar, nr, cr, q2, blk_kept q3 hg (fun r e => (hr r e).2), q4.kept hg (fun r e => (hr r e).2), blk_kept q5 hg (fun r e => (hr r e).2), blk_kept q6 hg (fun r e => (hr r e).2), q7.grown hg q7.size (fun b e => by have := (hr b e).1; have := HNW.out.size; omega)⟩
  case done =>
    rintro D xs W hD hF
    exact hF.elim
  case stop =>
    rintro D c pre W hD _ ⟨rfl, t, sr, Ar, nr, cr, ht, hb8, hwi, hb9, hb10, hB2⟩ hK
    have hd0 := hb8.cell 0 rfl
    have hd1 := hb8.cell 1 rfl
    have hd2 := hb9.cell 0 rfl
    have hd3 := hb10.cell 0 rfl
    have HX := Lib.hid (And.intro ht (And.intro hb8 (And.intro hwi (And.intro hb9 (And.intro hb10 (And.intro hB2 hK))))))
    clear ht hb8 hwi hb9 hb10 hB2 hK
    gi_wp2
    obtain ⟨ht, hb8, hwi, hb9, hb10, hB2, hK⟩ := HX.out
    refine ⟨by simp, .inl ⟨_, _, rfl, run_takeDeferred hK, ?_⟩⟩
    have hst : Stab 0 (fun V => Blk V g8 35 #[.bool sr, .slice Ar nr cr] ∧ Blk V g9 3 #[.int .i64 (i + (t * k : Nat) + (k : Int))] ∧ Blk V g10 36 #[.int .i64 0] ∧ WI V (.agg #[.bool sr, .slice Ar nr cr]) ((tryN seed s.data.toList i k t % N : Nat) : Int)) :=
      Stab.and (Stab.blk _ _ _ _) (Stab.and (Stab.blk _ _ _ _) (Stab.and (Stab.blk _ _ _ _) (fun _ _ _ h hg hr => h.kept hg (fun r e => (hr r e).2))))
    have hfin := hst.put (W := W) (l := D) (.deferred none) ⟨hb8, hb9, hb10, hwi⟩ (Nat.zero_le _) hK rfl
    refine ⟨_, res_ccc rfl _ rfl (aggInt.load hfin.1) rfl (flatInt.load hfin.2.1) rfl (flatErr.load hfin.2.2.1), sr, Ar, nr, cr, t, rfl, ht, hfin.2.2.2, New.of_below (hB2.trans (belowK_b (w := w) (Nat.le_refl _) _ D _ _ (by have := HNW.out.size; omega) hK rfl rfl))⟩
  case body =>
    rintro l' pre x W ⟨t, j, A, c, q1, q2, q3, q4, q5, q6, q7, q8, q9, q10, q11, q12, q13⟩ rfl
    obtain ⟨q, hq⟩ : ∃ q, pre.length = q := ⟨_, rfl⟩
    have hqb : q < 20000 := by
      have : t * k ≤ 63 * 255 := Nat.mul_le_mul (by omega) hk
      omega
    rw [hq] at q1 ⊢
    have hwr := word_range seed s.data.toList (i + q)
    obtain ⟨d, hd⟩ : ∃ d : Nat, wordI seed s.data.toList (i + q) = (d : Int) := ⟨(wordI seed s.data.toList (i + q)).toNat, (Int.toNat_of_nonneg hwr.1).symm⟩
    rw [hd] at hwr ⊢
    have hdb : d < 18446744073709551616 := by have := hwr.2; omega
    have hc20 := q10.cell 0 (u := .slice A j c) rfl
    have hf20 := q10.frozen 0
    have HK11 := Lib.hid H8.out.2.2.2.2.1
    have hrest : ∀ b, b < w8.heap.size → b ∉ [g8, g9, g10, g19, g20] → W.heap[b]? = w8.heap[b]? := fun b h1 h2 => q5 b ⟨h1, h2⟩
    have hb11 : Blk W g11 3 #[.int .i64 (k : Int)] := (hrest g11 (by have := HG.out; omega) (by have := HG.out; simp; omega)).trans HK11.out
    have HQ := Lib.hid (And.intro q4 (And.intro q5 (And.intro q6 (And.intro q7 (And.intro q8 (And.intro q9 (And.intro q10 (And.intro q12 (And.intro hb11 (And.intro hq (And.intro hd q1)))))))))))
    have HO := Lib.hid q11
    have hsz := q13
    have hi1 := hI.out.1
    have hi2 := hI.out.2
    have hg20 : g20 < w8.heap.size := by have := HG.out; omega
    have hneO : ∀ b, blk A = some b → w8.heap.size ≤ b := fun b hb => (own_blk_le HO.out hb).1
    have HNE := Lib.hid hneO
    have hk11 := hb11.cell 0 (u := .int .i64 (k : Int)) rfl
    have HK := Lib.hid hk11
    clear q4 q5 q6 q7 q8 q9 q10 q11 q12 hb11 hq hd q1 hwr hi hrest hneO HK11 hk11 hk0
    have hrl : ∀ V : World, Rd (V.alloc (.cells #[.int .u64 (d : Int)] 22)) (some ⟨V.heap.size, 0, none⟩) 1 (nv .u64 [d]) := fun V => Rd.lit (nv .u64 [d]) rfl
    have HRL := Lib.hid hrl
    clear hrl
    have hg11 : g11 < w8.heap.size := by have := HG.out; omega
    have n1 : ¬ g11 = g20 := by have := HG.out; omega
    have n2 : ¬ g20 = g11 := by omega
    have fin3 : ∀ A' c' w2, w2.ownsRow w8.heap.size 22 1 (.slice A' (j + 1) c') (j + 1) (nv .u64 (wordsL seed s.data.toList (i + (t * k : Nat)) j) ++ nv .u64 [d]) → (W.alloc (.cells #[.int .u64 (d : Int)] 22)).grownBy w2 (blk A) →
        (∀ b, b < w8.heap.size → b ≠ g20 → (w2.setCell ⟨g20, 0, none⟩ (.slice A' (j + 1) c')).heap[b]? = W.heap[b]?) ∧ Blk (w2.setCell ⟨g20, 0, none⟩ (.slice A' (j + 1) c')) g20 66 #[.slice A' (j + 1) c'] ∧
        (w2.setCell ⟨g20, 0, none⟩ (.slice A' (j + 1) c')).ownsRow w8.heap.size 22 1 (.slice A' (j + 1) c') (j + 1) (nv .u64 (wordsL seed s.data.toList (i + (t * k : Nat)) (j + 1))) ∧
        KeepsOthers W (w2.setCell ⟨g20, 0, none⟩ (.slice A' (j + 1) c')) ∧ Below w.heap.size w (w2.setCell ⟨g20, 0, none⟩ (.slice A' (j + 1) c')) ∧ W.heap.size ≤ (w2.setCell ⟨g20, 0, none⟩ (.slice A' (j + 1) c')).heap.size := by
      intro A' c' w2 hown2 hg2
      obtain ⟨q4, q5, q6, q7, q8, q9, q10, q12, hb11, hq, hd, q1⟩ := HQ.out
      have hchg : Chg (fun b => b = g20 ∨ blk A = some b) W (w2.setCell ⟨g20, 0, none⟩ (.slice A' (j + 1) c')) := (((Chg.refl _ W).alloc _).grown hg2 (fun k hk _ => .inr hk)).setCell (fun _ => .inl rfl) _
      refine ⟨fun b h1 h2 => hchg.block b (by omega) (fun h => ?_), ?_, ?_, ?_, ?_, hchg.size⟩
      · rcases h with h | h
        · exact h2 h
        · have := HNE.out b h; omega
      · exact ((q10.alloc (.cells #[.int .u64 (d : Int)] 22)).grown hg2 (fun e => by have := HNE.out _ e; omega)).set_ 0 _
      · rw [wordsL_succ seed s.data.toList _ j d (by rw [← hd]; congr 1; rw [q1]; omega), nv_append]
        exact own_chg hown2 ((Chg.refl (fun b => b = g20) w2).setCell (p := ⟨g20, 0, none⟩) (fun _ => rfl) _) (fun b hb e => by have := (own_blk_le hown2 hb).1; omega)
      · exact (KeepsOthers.alloc _ _).trans ((KeepsOthers.of_app (own_chg HO.out ((Chg.refl (fun _ => False) _).alloc _) (fun _ _ h => h)) hg2).trans (KeepsOthers.setCell _ _ _))
      · exact q12.trans (hchg.below (fun b h => by
          have := HG.out
          rcases h with h | h
          · omega
          · have := HNE.out b h; have := HNW.out.size; omega) q12.size)
    have F3 := Lib.hid fin3
    clear fin3
    by_cases hjk : j + 1 < k
    · have hjk1 : ((j + 1 : Nat) : Int) < (k : Int) := by omega
      have hjk2 : (j : Int) + 1 < (k : Int) := by omega
      gi_wp2_with (gi_at_builtin; refine wpListIn_app elemWords rfl _ _ rfl rfl (own_chg HO.out ((Chg.refl (fun _ => False) _).alloc _) (fun _ _ h => h)) rfl (HRL.out _) (nv_one _) (by simp only [maxLen]; omega) (by omega) (by simp; omega) ?_; intro A' c' w2 hown2 hg2 hat2; have hb20 := ((HQ.out.2.2.2.2.2.2.1).alloc (.cells #[.int .u64 (d : Int)] 22)).grown hg2 (fun e => by have := HNE.out _ e; omega); have hcc2 := hb20.cell 0 rfl; have hff2 := hb20.frozen 0; have hk2 := (((HQ.out.2.2.2.2.2.2.2.2.1).alloc (.cells #[.int .u64 (d : Int)] 22)).grown hg2 (fun e => by have := HNE.out _ e; omega)).cell 0 (u := .int .i64 (k : Int)) rfl; have hk3 := ((((((HQ.out.2.2.2.2.2.2.2.2.1).alloc (.cells #[.int .u64 (d : Int)] 22)).grown hg2 (fun e => by have := HNE.out _ e; omega))).far (p := ⟨g20, 0, none⟩) (by dsimp only; omega) (.slice A' (j + 1) c')).alloc (.cells #[.bool false, .slice none 0 0] 35)).cell 0 (u := .int .i64 (k : Int)) rfl; have HA := Lib.hid (And.intro hown2 (And.intro hg2 hb20)); clear hown2 hg2 hat2 hb20)
      obtain ⟨hlow, hb20, hown3, hko, hbel, hsz3⟩ := F3.out _ _ _ HA.out.1 HA.out.2.1
      obtain ⟨q4, q5, q6, q7, q8, q9, q10, q12, hb11, hq, hd, q1⟩ := HQ.out
      have hg := HG.out
      refine ⟨hko.from _, ?_, t, j + 1, A', c', ?_, hjk, q3, q4, ?_, (hlow g8 (by omega) (by omega)).trans q6, (hlow g9 (by omega) (by omega)).trans q7, (hlow g10 (by omega) (by omega)).trans q8, (hlow g19 (by omega) (by omega)).trans q9, hb20, hown3, hbel, by omega⟩
      · intro b hb
        refine hlow b ?_ ?_ <;> rcases hb with rfl | rfl | rfl <;> omega
      · rw [List.length_append, hq]; simp; omega
      · intro b hb
        exact (hlow b hb.1 (fun e => hb.2 (by simp [e]))).trans (q5 b hb)
    · have hjk1 : decide (((j + 1 : Nat) : Int) < (k : Int)) = false := by simp; omega
      have hjk2 : decide ((j : Int) + 1 < (k : Int)) = false := by simp; omega
      gi_wp2_with (gi_at_builtin; refine wpListIn_app elemWords rfl _ _ rfl rfl (own_chg HO.out ((Chg.refl (fun _ => False) _).alloc _) (fun _ _ h => h)) rfl (HRL.out _) (nv_one _) (by simp only [maxLen]; omega) (by omega) (by simp; omega) ?_; intro A' c' w2 hown2 hg2 hat2; have hb20 := ((HQ.out.2.2.2.2.2.2.1).alloc (.cells #[.int .u64 (d : Int)] 22)).grown hg2 (fun e => by have := HNE.out _ e; omega); have hcc2 := hb20.cell 0 rfl; have hff2 := hb20.frozen 0; have hk2 := (((HQ.out.2.2.2.2.2.2.2.2.1).alloc (.cells #[.int .u64 (d : Int)] 22)).grown hg2 (fun e => by have := HNE.out _ e; omega)).cell 0 (u := .int .i64 (k : Int)) rfl; have hk3 := ((((((HQ.out.2.2.2.2.2.2.2.2.1).alloc (.cells #[.int .u64 (d : Int)] 22)).grown hg2 (fun e => by have := HNE.out _ e; omega))).far (p := ⟨g20, 0, none⟩) (by dsimp only; omega) (.slice A' (j + 1) c')).alloc (.cells #[.bool false, .slice none 0 0] 35)).cell 0 (u := .int .i64 (k : Int)) rfl; have HA := Lib.hid (And.intro hown2 (And.intro hg2 hb20)); clear hown2 hg2 hat2 hb20)
      have hjk' : j + 1 = k := by omega
      obtain ⟨hlow, hb20, hown3, hko, hbel, hsz3⟩ := F3.out _ _ _ HA.out.1 HA.out.2.1
      clear hcc2 hff2 hk2 hk3 HA F3 HO HRL hc20 hf20
      have hzz : (w2.setCell ⟨g20, 0, none⟩ (.slice A' (j + 1) c')).heap.size = w2.heap.size := by simp [World.setCell]
      generalize w2.setCell ⟨g20, 0, none⟩ (.slice A' (j + 1) c') = V3 at *
      rw [hjk'] at hb20 hown3
      obtain ⟨L, hL⟩ : ∃ L, wordsL seed s.data.toList (i + (t * k : Nat)) k = L := ⟨_, rfl⟩
      have hLl : L.length = k := by rw [← hL]; exact wordsL_len _ _ _ _
      have hLd : Digs 18446744073709551616 L := by rw [← hL]; exact wordsL_digs _ _ _ _
      have hLt : val 18446744073709551616 L = tryN seed s.data.toList i k t := by rw [← hL]; rfl
      rw [hL] at hown3
      obtain ⟨gA, rfl, hgA, hgA2, _⟩ := own_form hown3 (by omega)
      obtain ⟨g23, hg23'⟩ : ∃ x, w2.heap.size = x := ⟨_, rfl⟩
      have hg23 : V3.heap.size = g23 := hzz.trans hg23'
      have hb23 := Blk.new V3 35 #[.bool false, .slice none 0 0]
      rw [hg23] at hb23 hgA2
      simp only [hg23']
      have hn4 : New V3 (V3.alloc (.cells #[.bool false, .slice none 0 0] 35)) := (Chg.refl _ _).alloc _
      generalize V3.alloc (.cells #[.bool false, .slice none 0 0] 35) = V4 at hb23 hn4 ⊢
      have hgs : w8.heap.size ≤ gA ∧ gA < g23 ∧ w8.heap.size ≤ g23 := by omega
      have H4 := Lib.hid (And.intro hb23 (And.intro (hb20.chg hn4 (fun h => h)) (And.intro (own_chg hown3 hn4 (fun _ _ h => h)) hn4)))
      have H3 := Lib.hid (And.intro hlow (And.intro hko (And.intro hbel (And.intro hsz3 (And.intro hb20 hown3)))))
      have HL := Lib.hid (And.intro hLl (And.intro hLd hLt))
      clear hlow hb20 hown3 hko hbel hsz3 hL hLl hLd hLt hb23 hn4 hg23 hg23' hzz hgA hgA2 hjk1 hjk2 hjk'
      gi_loopw [24] (fun v wr => ∃ e : Nat, ∃ sx Ax nx cx, v = .int .i64 ((e : Int) - 1) ∧ e ≤ k ∧ Hid (Blk wr g23 35 #[.bool sx, .slice Ax nx cx] ∧ WI wr (.agg #[.bool sx, .slice Ax nx cx]) ((val 18446744073709551616 (L.drop e) : Nat) : Int) ∧ Chg (fun b => b = g23) V4 wr)) (fun v _ => (intOf v + 1).toNat)
      case atStart =>
        refine ⟨k, false, none, 0, 0, rfl, Nat.le_refl _, H4.out.1, ?_, Chg.refl _ _⟩
        rw [List.drop_of_length_le (by rw [HL.out.1]; exact Nat.le_refl _)]
        exact WI.zero _
      case round =>
        obtain ⟨e, sx, Ax, nx, cx, rfl, he, HE⟩ := hrel
        obtain ⟨wo, rfl⟩ : ∃ wo : World, wo = wr := ⟨_, rfl⟩
        have x0 := HE.out.1.cell 0 (u := .bool sx) rfl
        have x1 := HE.out.1.cell 1 (u := .slice Ax nx cx) rfl
        have hb20 := H4.out.2.1.chg HE.out.2.2 (show g20 ≠ g23 by omega)
        have y0 := hb20.cell 0 (u := .slice (some ⟨gA, 0, none⟩) k c') rfl
        by_cases h0 : e = 0
        · subst h0
          obtain ⟨q4, q5, q6, q7, q8, q9, q10, q12, hb11, hq, hd, q1⟩ := HQ.out
          obtain ⟨hlow, hko, hbel, hsz3, hb20', hown3⟩ := H3.out
          have hg := HG.out
          have hb19 : Blk V3 g19 3 #[.int .i64 (t : Int)] := (hlow g19 (by omega) (by omega)).trans q9
          have hb19' := (hb19.chg H4.out.2.2.2 (fun h => h)).chg HE.out.2.2 (show g19 ≠ g23 by omega)
          have hfz19 := hb19'.frozen 0
          have hc19 := hb19'.cell 0 (u := .int .i64 (t : Int)) rfl
          have hfz20 := hb20.frozen 0
          have hup := run_upto (P := Tryz.prog) elemWords .i64 (some ⟨gA, 0, none⟩) k c' 0 0 rfl (Nat.zero_le _)
          have hlw : ∀ b, b < w8.heap.size → b ≠ g20 → b ≠ g19 → ((wo.setCell ⟨g20, 0, none⟩ (.slice (some ⟨gA, 0, none⟩) 0 c')).setCell ⟨g19, 0, none⟩ (.int .i64 ((t : Int) + 1))).heap[b]? = W.heap[b]? := fun b h1 h2 h3 => by
            rw [Below.heap_setCell _ ⟨g19, 0, none⟩ _ b h3, Below.heap_setCell _ ⟨g20, 0, none⟩ _ b h2, HE.out.2.2.block b (Nat.lt_of_lt_of_le h1 (by have := H4.out.2.2.2.size; omega)) (by omega), H4.out.2.2.2.block b (by omega) (fun h => h)]
            exact hlow b h1 h2
          have hch0 : Chg (fun b => b = g20) wo (wo.setCell ⟨g20, 0, none⟩ (.slice (some ⟨gA, 0, none⟩) 0 c')) := (Chg.refl (fun b => b = g20) wo).setCell (p := ⟨g20, 0, none⟩) (fun _ => rfl) _
          have hb19'' := hb19'.far (p := ⟨g20, 0, none⟩) (by dsimp only; omega) (.slice (some ⟨gA, 0, none⟩) 0 c')
          have hch1 : Chg (fun b => b = g19) (wo.setCell ⟨g20, 0, none⟩ (.slice (some ⟨gA, 0, none⟩) 0 c')) ((wo.setCell ⟨g20, 0, none⟩ (.slice (some ⟨gA, 0, none⟩) 0 c')).setCell ⟨g19, 0, none⟩ (.int .i64 ((t : Int) + 1))) := (Chg.refl (fun b => b = g19) _).setCell (p := ⟨g19, 0, none⟩) (fun _ => rfl) _
          have hwx := HE.out.2.1
          rw [List.drop_zero, HL.out.2.2] at hwx
          have hfin : Blk ((wo.setCell ⟨g20, 0, none⟩ (.slice (some ⟨gA, 0, none⟩) 0 c')).setCell ⟨g19, 0, none⟩ (.int .i64 ((t : Int) + 1))) g19 3 #[.int .i64 ((t : Int) + 1)] ∧ Blk ((wo.setCell ⟨g20, 0, none⟩ (.slice (some ⟨gA, 0, none⟩) 0 c')).setCell ⟨g19, 0, none⟩ (.int .i64 ((t : Int) + 1))) g20 66 #[.slice (some ⟨gA, 0, none⟩) 0 c'] ∧ Blk ((wo.setCell ⟨g20, 0, none⟩ (.slice (some ⟨gA, 0, none⟩) 0 c')).setCell ⟨g19, 0, none⟩ (.int .i64 ((t : Int) + 1))) g23 35 #[.bool sx, .slice Ax nx cx] ∧
              WI ((wo.setCell ⟨g20, 0, none⟩ (.slice (some ⟨gA, 0, none⟩) 0 c')).setCell ⟨g19, 0, none⟩ (.int .i64 ((t : Int) + 1))) (.agg #[.bool sx, .slice Ax nx cx]) ((tryN seed s.data.toList i k t : Nat) : Int) ∧ ((wo.setCell ⟨g20, 0, none⟩ (.slice (some ⟨gA, 0, none⟩) 0 c')).setCell ⟨g19, 0, none⟩ (.int .i64 ((t : Int) + 1))).ownsRow w8.heap.size 22 1 (.slice (some ⟨gA, 0, none⟩) 0 c') 0 [] ∧
              KeepsOthers W ((wo.setCell ⟨g20, 0, none⟩ (.slice (some ⟨gA, 0, none⟩) 0 c')).setCell ⟨g19, 0, none⟩ (.int .i64 ((t : Int) + 1))) ∧ Below w.heap.size w ((wo.setCell ⟨g20, 0, none⟩ (.slice (some ⟨gA, 0, none⟩) 0 c')).setCell ⟨g19, 0, none⟩ (.int .i64 ((t : Int) + 1))) ∧ w8.heap.size ≤ ((wo.setCell ⟨g20, 0, none⟩ (.slice (some ⟨gA, 0, none⟩) 0 c')).setCell ⟨g19, 0, none⟩ (.int .i64 ((t : Int) + 1))).heap.size ∧
              (∀ b, b < w8.heap.size → b ≠ g20 → b ≠ g19 → ((wo.setCell ⟨g20, 0, none⟩ (.slice (some ⟨gA, 0, none⟩) 0 c')).setCell ⟨g19, 0, none⟩ (.int .i64 ((t : Int) + 1))).heap[b]? = W.heap[b]?) := by
            refine ⟨hb19''.set_ 0 _, (hb20.set_ 0 _).chg hch1 (show g20 ≠ g19 by omega), (HE.out.1.chg hch0 (show g23 ≠ g20 by omega)).chg hch1 (show g23 ≠ g19 by omega), (hwx.far hb20 (fun d h => by simp at h) hch0).far hb19'' (fun d h => by simp at h) hch1, ?_, ?_, ?_, ?_, hlw⟩
            · exact own_chg (own_chg (own_chg (own_cut0 H4.out.2.2.1) HE.out.2.2 (fun b hb e => by simp [blk] at hb; omega)) hch0 (fun b hb e => by simp [blk] at hb; omega)) hch1 (fun b hb e => by simp [blk] at hb; omega)
            · exact hko.trans ((New.keepsO H4.out.2.2.2).trans ((KeepsOthers.of_chg1 H4.out.1 HE.out.2.2).trans ((KeepsOthers.setCell _ _ _).trans (KeepsOthers.setCell _ _ _))))
            · have hc1 := ((Chg.new (Chg.refl (fun b => w8.heap.size ≤ b ∨ b = g20 ∨ b = g19) V3) H4.out.2.2.2).trans HE.out.2.2 (fun b _ e => .inl (by omega))).trans hch0 (fun b _ e => .inr (.inl e))
              have hc2 := hc1.trans hch1 (fun b _ e => .inr (.inr e))
              exact hbel.trans (hc2.below (fun b h => by have := HNW.out.size; omega) hbel.size)
            · have h1 := hch0.size
              have h2 := hch1.size
              have h3 := HE.out.2.2.size
              have h4 := H4.out.2.2.2.size
              omega
          have m1 : ¬ g23 = g20 := by omega
          have m2 : ¬ g23 = g19 := by omega
          have m3 : ¬ g17 = g20 := by omega
          have m4 : ¬ g17 = g19 := by omega
          have m5 : ¬ g19 = g20 := by omega
          have m6 : ¬ g20 = g19 := by omega
          have hw17 : Blk W g17 35 #[.bool s6, .slice A6 n6 c6] := (q5 g17 ⟨by omega, by simp; omega⟩).trans H8.out.2.2.2.2.2.1
          have hb17 : Blk wo g17 35 #[.bool s6, .slice A6 n6 c6] := (((show Blk V3 g17 35 #[.bool s6, .slice A6 n6 c6] from (hlow g17 (by omega) (by omega)).trans hw17).chg H4.out.2.2.2 (fun h => h)).chg HE.out.2.2 (show g17 ≠ g23 by omega))
          have k0 := hb17.cell 0 (u := .bool s6) rfl
          have k1 := hb17.cell 1 (u := .slice A6 n6 c6) rfl
          have ht64 : (t : Int) < 64 := by omega
          have H5 := Lib.hid hfin
          clear q4 q5 q6 q7 q8 q9 q10 q12 hb11 hq hd q1 hlow hko hbel hsz3 hb20' hown3 hg hb19 hb19' hlw hch0 hch1 hb19'' hwx hfin hw17 hb17 hb20 H3
          gi_wp2
          generalize (wo.setCell ⟨g20, 0, none⟩ (.slice (some ⟨gA, 0, none⟩) 0 c')).setCell ⟨g19, 0, none⟩ (.int .i64 ((t : Int) + 1)) = V5 at H5 ⊢
          clear x0 x1 y0 hfz19 hc19 hfz20 hup k0 k1 HE H4
          have hnl : WI V5 (.agg #[.bool s0, .slice A0 n0 c0]) (N : Int) ∧ WI V5 (.agg #[.bool s6, .slice A6 n6 c6]) (bd : Int) ∧ Blk V5 g7 35 #[.bool s0, .slice A0 n0 c0] ∧ Keep (Rest [g8, g9, g10, g19, g20] w8.heap.size) w8 V5 := by
            have hk5 : Keep (Rest [g8, g9, g10, g19, g20] w8.heap.size) w8 V5 := fun b hb => (H5.out.2.2.2.2.2.2.2.2 b hb.1 (fun e => hb.2 (by simp [e])) (fun e => hb.2 (by simp [e]))).trans (HQ.out.2.1 b hb)
            refine ⟨HM.out.1.rest hk5 HSS.out, HM.out.2.rest hk5 HSS.out, (hk5 g7 ⟨by have := HG.out; omega, by have := HG.out; simp; omega⟩).trans H8.out.1, hk5⟩
          have HNL := Lib.hid hnl
          clear hnl
          refine ⟨trivial, (CallsIn.inRound l' (callsIn_wide.2 (compare_any _ _ _ _ V5 H5.out.2.2.2.1 HNL.out.2.1))).mono ?_⟩
          rintro e w6' ⟨rfl, hn6⟩
          have HN6 := Lib.hid hn6
          clear hn6
          obtain ⟨X, hX⟩ : ∃ X, tryN seed s.data.toList i k t = X := ⟨_, rfl⟩
          rw [hX]
          have HX := Lib.hid hX
          have hcm : decide (cmpI (X : Int) (bd : Int) < 0) = decide (X < bd) := by
            unfold cmpI
            by_cases h : X < bd
            · rw [if_pos (by omega)]; simp [h]
            · rw [if_neg (by omega)]
              split <;> simp [h]
          generalize cmpI (X : Int) (bd : Int) = C at hcm ⊢
          have hb19 := H5.out.1.chg HN6.out (fun h => h)
          have hc19 := hb19.cell 0 (u := .int .i64 ((t : Int) + 1)) rfl
          have hb23 := H5.out.2.2.1.chg HN6.out (fun h => h)
          have x0 := hb23.cell 0 (u := .bool sx) rfl
          have x1 := hb23.cell 1 (u := .slice Ax nx cx) rfl
          have hb7 := HNL.out.2.2.1.chg HN6.out (fun h => h)
          have y0 := hb7.cell 0 (u := .bool s0) rfl
          have y1 := hb7.cell 1 (u := .slice A0 n0 c0) rfl
          clear hb19 hb23 hb7 hX
          by_cases hlt : X < bd
          · have HT : Hid (X < bd ∨ t = 63) := .inl hlt
            have hC : C < 0 := by simpa [hlt] using hcm
            clear hcm
            gi_wp2
            refine ⟨trivial, CallsIn.inRound l' (callsIn_wide.2 ?_)⟩
            have hwX := (H5.out.2.2.2.1.new HN6.out)
            rw [HX.out] at hwX
            have hXb : X < topN := by
              rw [← HX.out]
              have h1 := val_lt (wordsL_digs seed s.data.toList (i + (t * k : Nat)) k)
              rw [wordsL_len] at h1
              exact Nat.lt_trans h1 (p64_top hk)
            refine (wdiv_any _ _ _ _ w6' hwX (HNL.out.1.new HN6.out) (top_big hXb 900000 (by decide)) (top_big (Nat.lt_of_le_of_lt HV.out.2.1 (p64_top hk)) 900000 (by decide)) (by omega)).mono ?_
            rintro e w7 ⟨s7, A7, n7, c7, sr, Ar, nr, cr, rfl, H7⟩
            have hn57 : New V5 w7 := HN6.out.new H7.out.2.2
            have hg := HG.out
            have hl8 : ∀ b, b < w8.heap.size → b ≠ g20 → b ≠ g19 → w7.heap[b]? = W.heap[b]? := fun b h1 h2 h3 => (hn57.block b (by have := H5.out.2.2.2.2.2.2.2.1; omega) (fun h => h)).trans (H5.out.2.2.2.2.2.2.2.2 b h1 h2 h3)
            have b8 : Blk w7 g8 35 #[.bool false, .slice none 0 0] := (hl8 g8 (by omega) (by omega) (by omega)).trans HQ.out.2.2.1
            have b9 : Blk w7 g9 3 #[.int .i64 0] := (hl8 g9 (by omega) (by omega) (by omega)).trans HQ.out.2.2.2.1
            have b10 : Blk w7 g10 36 #[.int .i64 0] := (hl8 g10 (by omega) (by omega) (by omega)).trans HQ.out.2.2.2.2.1
            have hn77 : New w7 ((w7.alloc (.cells #[.bool s7, .slice A7 n7 c7] 35)).alloc (.cells #[.bool sr, .slice Ar nr cr] 35)) := ((Chg.refl _ w7).alloc _).alloc _
            have e8 := b8.chg hn77 (fun h => h)
            have e9 := b9.chg hn77 (fun h => h)
            have e10 := b10.chg hn77 (fun h => h)
            have u80 := e8.cell 0 (u := .bool false) rfl
            have u81 := e8.cell 1 (u := .slice none 0 0) rfl
            have u90 := e9.cell 0 (u := .int .i64 0) rfl
            have u100 := e10.cell 0 (u := .int .i64 0) rfl
            have v80 := e8.frozen 0
            have v81 := e8.frozen 1
            have v90 := e9.frozen 0
            have v100 := e10.frozen 0
            have n89 : ¬ g8 = g9 := by omega
            have n98 : ¬ g9 = g8 := by omega
            have n810 : ¬ g8 = g10 := by omega
            have n108 : ¬ g10 = g8 := by omega
            have n910 : ¬ g9 = g10 := by omega
            have n109 : ¬ g10 = g9 := by omega
            have l8 := e8.lt
            have l9 := e9.lt
            have l10 := e10.lt
            have HE7 := Lib.hid (And.intro e8 (And.intro e9 (And.intro e10 (And.intro (H7.out.2.1.new hn77) (And.intro hn77 hn57)))))
            clear x0 x1 y0 y1 hc19 hwX hXb hn57 hg hl8 b8 b9 b10 hn77 e8 e9 e10
            gi_wp2
            obtain ⟨e8, e9, e10, hwr, hn77, hn57⟩ := HE7.out
            generalize (w7.alloc (.cells #[.bool s7, .slice A7 n7 c7] 35)).alloc (.cells #[.bool sr, .slice Ar nr cr] 35) = V7 at *
            obtain ⟨q4, q5, q6, q7, q8, q9, q10, q12, hb11, hq, hd, q1⟩ := HQ.out
            have hg := HG.out
            have hwz := HNW.out.size
            have hch8 := Chg.at2 V7 g8 (.bool sr) (.slice Ar nr cr)
            have e9' := e9.chg hch8 n98
            have hch9 := Chg.at1 ((V7.setCell ⟨g8, 0, none⟩ (.bool sr)).setCell ⟨g8, 1, none⟩ (.slice Ar nr cr)) g9 (.int .i64 (i + (q : Int) + 1))
            have e10' := (e10.chg hch8 n108).chg hch9 n109
            have hch10 := Chg.at1 (((V7.setCell ⟨g8, 0, none⟩ (.bool sr)).setCell ⟨g8, 1, none⟩ (.slice Ar nr cr)).setCell ⟨g9, 0, none⟩ (.int .i64 (i + (q : Int) + 1))) g10 (.int .i64 0)
            have hnx : i + (q : Int) + 1 = i + ((t * k : Nat) : Int) + (k : Int) := by omega
            have hwf := ((hwr.far e8 (fun d h => by simp at h) hch8).far e9' (fun d h => by simp at h) hch9).far e10' (fun d h => by simp at h) hch10
            rw [← Int.natCast_emod, ← HX.out] at hwf
            refine ⟨(H5.out.2.2.2.2.2.1.trans ((New.keepsO (hn57.new hn77)).trans ((KeepsOthers.setCell _ _ _).trans ((KeepsOthers.setCell _ _ _).trans ((KeepsOthers.setCell _ _ _).trans (KeepsOthers.setCell _ _ _)))))).from _, rfl, t, sr, Ar, nr, cr, ⟨by omega, q4, by rw [HX.out]; exact HT.out⟩, ((e8.set2 _ _).chg hch9 n89).chg hch10 n810, hwf, ?_, e10'.set1 _, ?_⟩
            · rw [← hnx]
              exact (e9'.set1 _).chg hch10 n910
            · have hb5 := H5.out.2.2.2.2.2.2.1
              have hb7 := hb5.trans (Chg.below (hn57.new hn77) (fun _ hf => hf.elim) hb5.size)
              exact (((hb7.setCell (p := ⟨g8, 0, none⟩) (by simp; omega) _).setCell (p := ⟨g8, 1, none⟩) (by simp; omega) _).setCell (p := ⟨g9, 0, none⟩) (by simp; omega) _).setCell (p := ⟨g10, 0, none⟩) (by simp; omega) _
          · have hC : decide (C < 0) = false := by rw [hcm]; simpa using hlt
            clear hcm
            by_cases h63 : t = 63
            · have he64 : ((t : Int) + 1 == 64) = true := by simp; omega
              have HT : Hid (X < bd ∨ t = 63) := .inr h63
              clear h63
              gi_wp2
              refine ⟨trivial, CallsIn.inRound l' (callsIn_wide.2 ?_)⟩
              have hwX := (H5.out.2.2.2.1.new HN6.out)
              rw [HX.out] at hwX
              have hXb : X < topN := by
                rw [← HX.out]
                have h1 := val_lt (wordsL_digs seed s.data.toList (i + (t * k : Nat)) k)
                rw [wordsL_len] at h1
                exact Nat.lt_trans h1 (p64_top hk)
              refine (wdiv_any _ _ _ _ w6' hwX (HNL.out.1.new HN6.out) (top_big hXb 900000 (by decide)) (top_big (Nat.lt_of_le_of_lt HV.out.2.1 (p64_top hk)) 900000 (by decide)) (by omega)).mono ?_
              rintro e w7 ⟨s7, A7, n7, c7, sr, Ar, nr, cr, rfl, H7⟩
              have hn57 : New V5 w7 := HN6.out.new H7.out.2.2
              have hg := HG.out
              have hl8 : ∀ b, b < w8.heap.size → b ≠ g20 → b ≠ g19 → w7.heap[b]? = W.heap[b]? := fun b h1 h2 h3 => (hn57.block b (by have := H5.out.2.2.2.2.2.2.2.1; omega) (fun h => h)).trans (H5.out.2.2.2.2.2.2.2.2 b h1 h2 h3)
              have b8 : Blk w7 g8 35 #[.bool false, .slice none 0 0] := (hl8 g8 (by omega) (by omega) (by omega)).trans HQ.out.2.2.1
              have b9 : Blk w7 g9 3 #[.int .i64 0] := (hl8 g9 (by omega) (by omega) (by omega)).trans HQ.out.2.2.2.1
              have b10 : Blk w7 g10 36 #[.int .i64 0] := (hl8 g10 (by omega) (by omega) (by omega)).trans HQ.out.2.2.2.2.1
              have hn77 : New w7 ((w7.alloc (.cells #[.bool s7, .slice A7 n7 c7] 35)).alloc (.cells #[.bool sr, .slice Ar nr cr] 35)) := ((Chg.refl _ w7).alloc _).alloc _
              have e8 := b8.chg hn77 (fun h => h)
              have e9 := b9.chg hn77 (fun h => h)
              have e10 := b10.chg hn77 (fun h => h)
              have u80 := e8.cell 0 (u := .bool false) rfl
              have u81 := e8.cell 1 (u := .slice none 0 0) rfl
              have u90 := e9.cell 0 (u := .int .i64 0) rfl
              have u100 := e10.cell 0 (u := .int .i64 0) rfl
              have v80 := e8.frozen 0
              have v81 := e8.frozen 1
              have v90 := e9.frozen 0
              have v100 := e10.frozen 0
              have n89 : ¬ g8 = g9 := by omega
              have n98 : ¬ g9 = g8 := by omega
              have n810 : ¬ g8 = g10 := by omega
              have n108 : ¬ g10 = g8 := by omega
              have n910 : ¬ g9 = g10 := by omega
              have n109 : ¬ g10 = g9 := by omega
              have l8 := e8.lt
              have l9 := e9.lt
              have l10 := e10.lt
              have HE7 := Lib.hid (And.intro e8 (And.intro e9 (And.intro e10 (And.intro (H7.out.2.1.new hn77) (And.intro hn77 hn57)))))
              clear x0 x1 y0 y1 hc19 hwX hXb hn57 hg hl8 b8 b9 b10 hn77 e8 e9 e10
              gi_wp2
              obtain ⟨e8, e9, e10, hwr, hn77, hn57⟩ := HE7.out
              generalize (w7.alloc (.cells #[.bool s7, .slice A7 n7 c7] 35)).alloc (.cells #[.bool sr, .slice Ar nr cr] 35) = V7 at *
              obtain ⟨q4, q5, q6, q7, q8, q9, q10, q12, hb11, hq, hd, q1⟩ := HQ.out
              have hg := HG.out
              have hwz := HNW.out.size
              have hch8 := Chg.at2 V7 g8 (.bool sr) (.slice Ar nr cr)
              have e9' := e9.chg hch8 n98
              have hch9 := Chg.at1 ((V7.setCell ⟨g8, 0, none⟩ (.bool sr)).setCell ⟨g8, 1, none⟩ (.slice Ar nr cr)) g9 (.int .i64 (i + (q : Int) + 1))
              have e10' := (e10.chg hch8 n108).chg hch9 n109
              have hch10 := Chg.at1 (((V7.setCell ⟨g8, 0, none⟩ (.bool sr)).setCell ⟨g8, 1, none⟩ (.slice Ar nr cr)).setCell ⟨g9, 0, none⟩ (.int .i64 (i + (q : Int) + 1))) g10 (.int .i64 0)
              have hnx : i + (q : Int) + 1 = i + ((t * k : Nat) : Int) + (k : Int) := by omega
              have hwf := ((hwr.far e8 (fun d h => by simp at h) hch8).far e9' (fun d h => by simp at h) hch9).far e10' (fun d h => by simp at h) hch10
              rw [← Int.natCast_emod, ← HX.out] at hwf
              refine ⟨(H5.out.2.2.2.2.2.1.trans ((New.keepsO (hn57.new hn77)).trans ((KeepsOthers.setCell _ _ _).trans ((KeepsOthers.setCell _ _ _).trans ((KeepsOthers.setCell _ _ _).trans (KeepsOthers.setCell _ _ _)))))).from _, rfl, t, sr, Ar, nr, cr, ⟨by omega, q4, by rw [HX.out]; exact HT.out⟩, ((e8.set2 _ _).chg hch9 n89).chg hch10 n810, hwf, ?_, e10'.set1 _, ?_⟩
              · rw [← hnx]
                exact (e9'.set1 _).chg hch10 n910
              · have hb5 := H5.out.2.2.2.2.2.2.1
                have hb7 := hb5.trans (Chg.below (hn57.new hn77) (fun _ hf => hf.elim) hb5.size)
                exact (((hb7.setCell (p := ⟨g8, 0, none⟩) (by simp; omega) _).setCell (p := ⟨g8, 1, none⟩) (by simp; omega) _).setCell (p := ⟨g9, 0, none⟩) (by simp; omega) _).setCell (p := ⟨g10, 0, none⟩) (by simp; omega) _
            · have he64 : ((t : Int) + 1 == 64) = false := by simp; omega
              gi_wp2
              obtain ⟨q4, q5, q6, q7, q8, q9, q10, q12, hb11, hq, hd, q1⟩ := HQ.out
              have hg := HG.out
              obtain ⟨r1, r2, r3, r4, r5, r6, r7, r8, r9⟩ := H5.out
              have hn6 := HN6.out
              have hl6 : ∀ b, b < w8.heap.size → b ≠ g20 → b ≠ g19 → w6'.heap[b]? = W.heap[b]? := fun b h1 h2 h3 => (hn6.block b (by omega) (fun h => h)).trans (r9 b h1 h2 h3)
              refine ⟨(r6.trans (New.keepsO hn6)).from _, ?_, t + 1, 0, some ⟨gA, 0, none⟩, c', ?_, by omega, by omega, ?_, ?_, (hl6 g8 (by omega) (by omega) (by omega)).trans q6, (hl6 g9 (by omega) (by omega) (by omega)).trans q7, (hl6 g10 (by omega) (by omega) (by omega)).trans q8, ?_, r2.chg hn6 (fun h => h), own_chg r5 hn6 (fun _ _ h => h), r7.trans (Chg.below hn6 (fun _ hf => hf.elim) r7.size), Nat.le_trans r8 hn6.size⟩
              · intro b hb
                refine hl6 b ?_ ?_ ?_ <;> rcases hb with rfl | rfl | rfl <;> omega
              · rw [List.length_append, hq, Nat.succ_mul]
                simp
                omega
              · intro u hu
                rcases Nat.lt_or_ge u t with h | h
                · exact q4 u h
                · obtain rfl : u = t := by omega
                  rw [HX.out]
                  exact hlt
              · intro b hb
                exact (hl6 b hb.1 (fun e => hb.2 (by simp [e])) (fun e => hb.2 (by simp [e]))).trans (q5 b hb)
              · have := r1.chg hn6 (fun h => h)
                rw [Int.natCast_add]
                exact this
        · obtain ⟨f, rfl⟩ : ∃ f, e = f + 1 := ⟨e - 1, by omega⟩
          have hij : (((f + 1 : Nat) : Int) - 1) = (f : Int) := by omega
          rw [hij]
          obtain ⟨dd, hdd⟩ : ∃ dd, L[f]? = some dd := ⟨_, List.getElem?_eq_getElem (by rw [HL.out.1]; omega)⟩
          have hddb : dd < 18446744073709551616 := HL.out.2.1 dd (List.mem_of_getElem? hdd)
          have hst := val_drop (B := 18446744073709551616) hdd
          have z0 := own_cell (own_chg H4.out.2.2.1 HE.out.2.2 (fun b hb e => by simp [blk] at hb; omega)) (i := f) (u := .int .u64 (dd : Int)) (by unfold nv; rw [List.getElem?_map, hdd]; rfl)
          have hvb : val 18446744073709551616 (L.drop f) < topN := by
            have h1 := val_lt (HL.out.2.1.drop f)
            rw [List.length_drop, HL.out.1] at h1
            exact Nat.lt_trans h1 (p64_top (k := k - f) (by omega))
          have HS := Lib.hid (And.intro hst hvb)
          have hfk : (f : Int) < (k : Int) := by omega
          have HN0 : Hid (New wo wo.drew) := (Chg.refl _ wo).drew
          have HC := Lib.hid (And.intro x0 (And.intro x1 hb20))
          clear hst hvb hdd hij hb20
          gi_wp2
          gi_region_with (first
            | (refine ⟨trivial, ?_⟩; gi_at_call 32; (with_reducible refine (CallsIn.inRound l' (callsIn_wide.2 (lift_any _ _ dd _ (by rw [HS.out.1, Nat.add_comm, Nat.mul_comm]) HS.out.2 hddb _ (HE.out.2.1.new HN0.out)))).mono ?_); rintro e w5 ⟨s5, A5, n5, c5, rfl, H5⟩; have HN5 : Hid (New wo w5) := HN0.out.new H5.out.2; have hbb5 := HE.out.1.chg HN5.out (fun h => h); have e0 := hbb5.cell 0 (u := .bool sx) rfl; have e1 := hbb5.cell 1 (u := .slice Ax nx cx) rfl; have f0 := hbb5.frozen 0; have f1 := hbb5.frozen 1; have HB5 := Lib.hid hbb5; clear hbb5))
          all_goals
            clear x0 x1 y0 z0 e0 e1 f0 f1
            gi_wp2
            go_roundw
            case rel =>
              have hch := Chg.at2 w5 g23 (.bool s5) (.slice A5 n5 c5)
              exact ⟨f, s5, A5, n5, c5, by go_num, by omega, HB5.out.set2 _ _, H5.out.1.store HB5.out (noInt_two _ _ _ _) hch, (HE.out.2.2.new HN5.out).trans hch (fun _ _ h => h)⟩
            case measure => simp [intOf]
end Go.Proofs.YtmpkaimhjdkheaaGreatDoor

namespace Go.Proofs.YtmpkaimhjdkheaaGreatDoor
set_option linter.unusedVariables false
open Go.RowKit Go.Mem Go.Dig Go.Pure

set_option maxHeartbeats 1000000 in
theorem big_limit (seed : Int) (lab : ByteArray) (i : Int) (v : Value) (N : Nat) (hN : p64 255 < N) (w : World) (hv : WI w v (N : Int)) :
    Calls Tryz.prog 13 #[.int .u64 seed, .string lab, .int .i64 i, v] w fun e w' => e = .returned (.tuple #[.agg #[.bool false, .slice none 0 0], .int .i64 i, .int .i64 4]) ∧ New w w' := by
  obtain ⟨s, A, n, c, rfl, hs, hm⟩ := hv
  have H := Lib.hid (And.intro hs hm)
  have HNN := Lib.hid hN
  clear hs hm hN
  go_enter Tryz.func13, Tryz.ntmps13
  go_wp2_with fail
  refine Calls.new4 ?_
  intro W hb1 hb2 hb3 hb4 hn hz
  have hwi : WI W (.agg #[.bool s, .slice A n c]) (N : Int) := WI.new ⟨s, A, n, c, rfl, H.out⟩ hn
  refine (sign_any _ (N : Int) W hwi).mono ?_
  rintro e w1 ⟨rfl, hn1⟩
  rw [show cmpI (N : Int) 0 = 1 from cmpI_gt (by have := HNN.out; omega)]
  have hc := hb1.chg hn1 (fun h => h)
  have hc0 := hc.cell 0 rfl
  have hc1 := hc.cell 1 rfl
  have H1 := Lib.hid (And.intro hb2 (And.intro hb3 (And.intro hb4 (And.intro hn (And.intro hn1 (hwi.new hn1))))))
  have hz1 : w.heap.size + 4 ≤ w1.heap.size := by have := hn1.size; omega
  clear hb1 hb2 hb3 hb4 hn hn1 hwi hc hz H
  go_wp2_with fail
  refine (parts_no _ N HNN.out w1 H1.out.2.2.2.2.2).mono ?_
  rintro e w2 ⟨rfl, hn2⟩
  obtain ⟨hb2, hb3, hb4, hn, hn1, _⟩ := H1.out
  have hd2 := (hb2.chg hn1 (fun h => h)).chg hn2 (fun h => h)
  have hd3 := (hb3.chg hn1 (fun h => h)).chg hn2 (fun h => h)
  have hd4 := (hb4.chg hn1 (fun h => h)).chg hn2 (fun h => h)
  have hcA := hd2.cell 0 (u := .bool false) rfl
  have hcB := hd2.cell 1 (u := .slice none 0 0) rfl
  have hcC := hd3.cell 0 (u := .int .i64 0) rfl
  have hcD := hd4.cell 0 (u := .int .i64 0) rfl
  have hl0 : w.heap.size < w2.heap.size := by have := hd2.lt; omega
  have hlA := hd2.lt
  have hlC := hd3.lt
  have hlD := hd4.lt
  have hfA := hd2.frozen 0
  have hfB := hd2.frozen 1
  have hfC := hd3.frozen 0
  have hfD := hd4.frozen 0
  have hz2 : w.heap.size + 4 ≤ w2.heap.size := by have := hn2.size; omega
  have H2 := Lib.hid (And.intro hd2 (And.intro hd3 (And.intro hd4 ((hn.new hn1).new hn2))))
  clear hb2 hb3 hb4 hn hn1 hn2 hd2 hd3 hd4 H1 hc0 hc1 hz1
  go_wp2_with fail
  obtain ⟨hd2, hd3, hd4, hn⟩ := H2.out
  have k2 := ((((hd2.set2 (.bool false) (.slice none 0 0)).far (p := ⟨w.heap.size + 1 + 1, 0, none⟩) (by dsimp only; omega) (.int .i64 i)).far (p := ⟨w.heap.size + 1 + 1 + 1, 0, none⟩) (by dsimp only; omega) (.int .i64 4)).alloc (.cells #[.int .i64 0] 3)).alloc (.cells #[.bool false, .slice none 0 0] 35)
  have k3 := (((((hd3.far (p := ⟨w.heap.size + 1, 0, none⟩) (by dsimp only; omega) (.bool false)).far (p := ⟨w.heap.size + 1, 1, none⟩) (by dsimp only; omega) (.slice none 0 0)).set1 (.int .i64 i)).far (p := ⟨w.heap.size + 1 + 1 + 1, 0, none⟩) (by dsimp only; omega) (.int .i64 4)).alloc (.cells #[.int .i64 0] 3)).alloc (.cells #[.bool false, .slice none 0 0] 35)
  have k4 := (((((hd4.far (p := ⟨w.heap.size + 1, 0, none⟩) (by dsimp only; omega) (.bool false)).far (p := ⟨w.heap.size + 1, 1, none⟩) (by dsimp only; omega) (.slice none 0 0)).far (p := ⟨w.heap.size + 1 + 1, 0, none⟩) (by dsimp only; omega) (.int .i64 i)).set1 (.int .i64 4)).alloc (.cells #[.int .i64 0] 3)).alloc (.cells #[.bool false, .slice none 0 0] 35)
  refine bodyPost_ret (res_ccc rfl _ rfl (aggInt.load k2) rfl (flatInt.load k3) rfl (flatErr.load k4)) rfl ⟨rfl, ?_⟩
  exact (((((hn.setCell (fun h => absurd h (by simp)) _).setCell (fun h => absurd h (by simp)) _).setCell (fun h => absurd h (by simp; omega)) _).setCell (fun h => absurd h (by simp; omega)) _).alloc _).alloc _

set_option maxHeartbeats 1000000 in
theorem big_neg (seed : Int) (lab : ByteArray) (i : Int) (v : Value) (z : Int) (hz : z < 1) (w : World) (hv : WI w v z) :
    Calls Tryz.prog 13 #[.int .u64 seed, .string lab, .int .i64 i, v] w fun e w' => e = .returned (.tuple #[.agg #[.bool false, .slice none 0 0], .int .i64 i, .int .i64 1]) ∧ New w w' := by
  obtain ⟨s, A, n, c, rfl, hs, hm⟩ := hv
  have H := Lib.hid (And.intro hs hm)
  clear hs hm
  go_enter Tryz.func13, Tryz.ntmps13
  go_wp2_with fail
  refine Calls.new4 ?_
  intro W hb1 hb2 hb3 hb4 hn hzz
  refine (sign_any _ z W (WI.new ⟨s, A, n, c, rfl, H.out⟩ hn)).mono ?_
  rintro e w1 ⟨rfl, hn1⟩
  have hC : cmpI z 0 < 1 := by unfold cmpI; split <;> (try split) <;> omega
  generalize cmpI z 0 = C at hC ⊢
  obtain ⟨g8, hg8⟩ : ∃ x, w.heap.size + 1 = x := ⟨_, rfl⟩
  obtain ⟨g9, hg9⟩ : ∃ x, w.heap.size + 1 + 1 = x := ⟨_, rfl⟩
  obtain ⟨g10, hg10⟩ : ∃ x, w.heap.size + 1 + 1 + 1 = x := ⟨_, rfl⟩
  rw [hg8] at hb2
  rw [hg9] at hb3
  rw [hg10] at hb4
  simp only [hg10]
  simp only [hg9]
  simp only [hg8]
  have e8 := hb2.chg hn1 (fun h => h)
  have e9 := hb3.chg hn1 (fun h => h)
  have e10 := hb4.chg hn1 (fun h => h)
  have u80 := e8.cell 0 (u := .bool false) rfl
  have u81 := e8.cell 1 (u := .slice none 0 0) rfl
  have u90 := e9.cell 0 (u := .int .i64 0) rfl
  have u100 := e10.cell 0 (u := .int .i64 0) rfl
  have v80 := e8.frozen 0
  have v81 := e8.frozen 1
  have v90 := e9.frozen 0
  have v100 := e10.frozen 0
  have n89 : ¬ g8 = g9 := by omega
  have n98 : ¬ g9 = g8 := by omega
  have n810 : ¬ g8 = g10 := by omega
  have n108 : ¬ g10 = g8 := by omega
  have n910 : ¬ g9 = g10 := by omega
  have n109 : ¬ g10 = g9 := by omega
  have hgs : w.heap.size ≤ g8 ∧ w.heap.size ≤ g9 ∧ w.heap.size ≤ g10 := by omega
  have HE := Lib.hid (And.intro e8 (And.intro e9 (And.intro e10 (And.intro (hn.new hn1) hgs))))
  clear hb1 hb2 hb3 hb4 hn hzz hn1 hg8 hg9 hg10 e8 e9 e10 hgs H
  go_wp2
  obtain ⟨e8, e9, e10, hn, hgs⟩ := HE.out
  have hch8 := Chg.at2 w1 g8 (.bool false) (.slice none 0 0)
  have e9' := e9.chg hch8 n98
  have hch9 := Chg.at1 ((w1.setCell ⟨g8, 0, none⟩ (.bool false)).setCell ⟨g8, 1, none⟩ (.slice none 0 0)) g9 (.int .i64 i)
  have e10' := (e10.chg hch8 n108).chg hch9 n109
  have hch10 := Chg.at1 (((w1.setCell ⟨g8, 0, none⟩ (.bool false)).setCell ⟨g8, 1, none⟩ (.slice none 0 0)).setCell ⟨g9, 0, none⟩ (.int .i64 i)) g10 (.int .i64 1)
  refine bodyPost_ret (res_ccc rfl _ rfl (aggInt.load (((e8.set2 _ _).chg hch9 n89).chg hch10 n810)) rfl (flatInt.load ((e9'.set1 _).chg hch10 n910)) rfl (flatErr.load (e10'.set1 _))) rfl ⟨rfl, ?_⟩
  exact Chg.owned (Chg.owned (Chg.owned hn hch8 (fun k e => by omega)) hch9 (fun k e => by omega)) hch10 (fun k e => by omega)
end Go.Proofs.YtmpkaimhjdkheaaGreatDoor

namespace Go.Proofs.YtmpkaimhjdkheaaGreatDoor
set_option linter.unusedVariables false
open Go.RowKit Go.Mem Go.Dig

set_option maxRecDepth 100000 in
set_option maxHeartbeats 4000000 in
theorem rdigit_any (d : Nat) (hd : d < 18446744073709551616) (w : World) :
    Calls Tryz.prog 89 #[.int .u64 d] w fun e w' => ∃ s A n c, e = .returned (.agg #[.bool s, .slice A n c]) ∧ Hid (RN w' (.agg #[.bool s, .slice A n c]) (d : Int) ∧ New w w') := by
  obtain ⟨p, hp⟩ : ∃ p, d / 4294967296 = p := ⟨_, rfl⟩
  obtain ⟨q, hq⟩ : ∃ q, d % 4294967296 = q := ⟨_, rfl⟩
  have hpi : (d : Int) / 4294967296 = (p : Int) := by omega
  have hqi : (d : Int) % 4294967296 = (q : Int) := by omega
  have hpb : p < 4294967296 := by omega
  have hqb : q < 4294967296 := by omega
  have HE : Hid ((p : Int) * 4294967296 + (q : Int) = (d : Int)) := by show _ = _; omega
  clear hp hq
  go_enter Tryz.func89, Tryz.ntmps89
  go_wp2_with fail
  refine Calls.new1 ?_
  intro W1 hb1 hn1 hz1
  refine (of_h (p : Int) W1 (by omega) (by omega)).mono ?_
  rintro e w2 ⟨s2, A2, n2, c2, rfl, H2⟩
  have HB := Lib.hid (And.intro (hb1.chg H2.out.2 (fun h => h)) (hn1.new H2.out.2))
  have hzz : w.heap.size < w2.heap.size := HB.out.1.lt
  clear hb1 hn1 hz1
  go_wp2_with fail
  refine Code.new1 ?_
  intro W hb3 hnW hzW
  have hc10 := hb3.cell 0 (u := .bool s2) rfl
  have hc11 := hb3.cell 1 (u := .slice A2 n2 c2) rfl
  have hbR := HB.out.1.chg hnW (fun h => h)
  have hc30 := hbR.cell 0 (u := .bool false) rfl
  have hc31 := hbR.cell 1 (u := .slice none 0 0) rfl
  have hf30 := hbR.frozen 0
  have hf31 := hbR.frozen 1
  have HW := Lib.hid (And.intro hb3 (And.intro hbR (And.intro (HB.out.2.new hnW) (H2.out.1.new hnW))))
  have HN0 : Hid (New W W.drew) := (Chg.refl _ W).drew
  have b1 : ((p : Nat) : Int).natAbs < 2 ^ 1000000 := small_big (by omega) (by omega)
  have b2 : (4294967296 : Int).natAbs < 2 ^ 1000000 := small_big (by omega) (by omega)
  have b3 : ((p : Int) * 4294967296).natAbs < 2 ^ 1000000 := small_big (by omega) (by omega)
  have b4 : ((q : Nat) : Int).natAbs < 2 ^ 1000000 := small_big (by omega) (by omega)
  have HBB := Lib.hid (And.intro b1 (And.intro b2 (And.intro b3 b4)))
  have g1 : (d : Int).tmod 4294967296 = (q : Int) := by rw [Int.tmod_eq_emod_of_nonneg (by omega)]; exact hqi
  have g2 : IntKind.u64.wrap (q : Int) = (q : Int) := by rw [IntKind.wrap_u64]; omega
  have g3 : IntKind.i64.wrap (q : Int) = (q : Int) := IntWalk.i64_in _ (by omega)
  clear hb3 hnW hzW hbR HB H2 b1 b2 b3 b4
  go_region_held3 (fun w' => w'.cell? ⟨w2.heap.size, 0, none⟩ = some (.bool s2) ∧ w'.cell? ⟨w2.heap.size, 1, none⟩ = some (.slice A2 n2 c2)) (first | exact ⟨by assumption, by assumption⟩ | exact ⟨far2 ha10 (by dsimp only; omega) _ _, far2 ha11 (by dsimp only; omega) _ _⟩)
    (first
      | (go_at_call 7; (with_reducible refine (of_h 4294967296 _ (by omega) (by omega)).mono ?_); rintro e w5 ⟨s5, A5, n5, c5, rfl, H5⟩; have HN5 : Hid (New W w5) := HN0.out.new H5.out.2; have hd10 := HN5.out.cell hc10 (fun h => h); have hd11 := HN5.out.cell hc11 (fun h => h))
      | (go_at_call 10; (with_reducible refine (rmul_h _ _ _ _ _ (HW.out.2.2.2.new HN5.out) H5.out.1 HBB.out.1 HBB.out.2.1).mono ?_); rintro e w6 ⟨s6, A6, n6, c6, rfl, H6⟩; have HN6 : Hid (New W w6) := HN5.out.new H6.out.2; have he10 := HN6.out.cell hc10 (fun h => h); have he11 := HN6.out.cell hc11 (fun h => h))
      | (go_at_call 7; (with_reducible refine (of_h (q : Int) _ (by omega) (by omega)).mono ?_); rintro e w7 ⟨s7, A7, n7, c7, rfl, H7⟩; have HN7 : Hid (New W w7) := HN6.out.new H7.out.2; have hg10 := HN7.out.cell hc10 (fun h => h); have hg11 := HN7.out.cell hc11 (fun h => h))
      | (go_at_call 19; (with_reducible refine (radd_h _ _ _ _ _ (H6.out.1.new H7.out.2) H7.out.1 HBB.out.2.2.1 HBB.out.2.2.2).mono ?_); rintro e w8 ⟨s8, A8, n8, c8, rfl, H8⟩; have HN8 : Hid (New W w8) := HN7.out.new H8.out.2; have ha10 := HN8.out.cell hc10 (fun h => h); have ha11 := HN8.out.cell hc11 (fun h => h); have ha30 := HN8.out.cell hc30 (fun h => h); have ha31 := HN8.out.cell hc31 (fun h => h); have hb30 := (HW.out.2.1.chg HN8.out (fun h => h)).frozen 0; have hb31 := (HW.out.2.1.chg HN8.out (fun h => h)).frozen 1))
  all_goals
    clear hc10 hc11 hc30 hc31 hf30 hf31 hd10 hd11 he10 he11 hg10 hg11 g1 g2 g3
    go_wp2
    have hb8 := HW.out.2.1.chg HN8.out (fun h => h)
    obtain ⟨hr8, hn8⟩ := H8.out
    rw [HE.out] at hr8
    refine bodyPost_ret (res_c rfl _ rfl (aggN.load (hb8.set2 _ _))) rfl ⟨s8, A8, n8, c8, rfl, hr8.store hb8 (noInt_two' _ _ _ _) (Chg.at2 _ _ _ _), ?_⟩
    exact Chg.owned (HW.out.2.2.1.new HN8.out) (Chg.at2 _ _ _ _) (fun k e => by omega)
end Go.Proofs.YtmpkaimhjdkheaaGreatDoor
