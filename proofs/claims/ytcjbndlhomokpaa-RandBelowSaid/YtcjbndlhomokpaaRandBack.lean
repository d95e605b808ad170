/- Contracts of rand's mixer: forth, back. -/
import Derived.Test.YtcjbndlhomokpaaRandMix
import Derived.Deep.QuietTactic
import Derived.BigQuiet
namespace Go.Proofs.Ytcjbndlhomokpaa
open Go.RowKit Go.Shelf Go.Mem Go.Pure

theorem i64_xor_nat (a b : Nat) (ha : a < 9223372036854775808) (hb : b < 9223372036854775808) : bits .xor .i64 (a : Int) (b : Int) = ((a ^^^ b : Nat) : Int) := by
  show IntKind.i64.wrap ((BitVec.ofInt 64 (a : Int) ^^^ BitVec.ofInt 64 (b : Int)).toNat : Int) = _
  rw [BitVec.ofInt_natCast, BitVec.ofInt_natCast, BitVec.toNat_xor, BitVec.toNat_ofNat, BitVec.toNat_ofNat, Nat.mod_eq_of_lt (by omega), Nat.mod_eq_of_lt (by omega), IntKind.wrap_i64]
  have := Nat.xor_lt_two_pow (n := 63) ha hb
  omega
theorem i64_and_nat (a b : Nat) (ha : a < 9223372036854775808) (hb : b < 9223372036854775808) : bits .and .i64 (a : Int) (b : Int) = ((a &&& b : Nat) : Int) := by
  show IntKind.i64.wrap ((BitVec.ofInt 64 (a : Int) &&& BitVec.ofInt 64 (b : Int)).toNat : Int) = _
  rw [BitVec.ofInt_natCast, BitVec.ofInt_natCast, BitVec.toNat_and, BitVec.toNat_ofNat, BitVec.toNat_ofNat, Nat.mod_eq_of_lt (by omega), Nat.mod_eq_of_lt (by omega), IntKind.wrap_i64]
  have := Nat.and_lt_two_pow (n := 63) a hb
  omega
theorem i64_or_nat (a b : Nat) (ha : a < 9223372036854775808) (hb : b < 9223372036854775808) : bits .or .i64 (a : Int) (b : Int) = ((a ||| b : Nat) : Int) := by
  show IntKind.i64.wrap ((BitVec.ofInt 64 (a : Int) ||| BitVec.ofInt 64 (b : Int)).toNat : Int) = _
  rw [BitVec.ofInt_natCast, BitVec.ofInt_natCast, BitVec.toNat_or, BitVec.toNat_ofNat, BitVec.toNat_ofNat, Nat.mod_eq_of_lt (by omega), Nat.mod_eq_of_lt (by omega), IntKind.wrap_i64]
  have := Nat.or_lt_two_pow (n := 63) ha hb
  omega
theorem side_le {h : Nat} (hh : h ≤ 20) : 2 ^ h ≤ 1048576 := Nat.le_trans (Nat.pow_le_pow_right (by omega) hh) (by decide)
theorem left_eq (h k : Nat) : (k : Int) / 2 ^ h = ((halves h k).1 : Int) := by
  have e : (2 : Int) ^ h = ((2 ^ h : Nat) : Int) := by simp
  rw [e]
  exact (Int.natCast_ediv k (2 ^ h)).symm
theorem right_eq {h k : Nat} (hh : h ≤ 20) (hk : k < 9223372036854775808) : bits .and .i64 (k : Int) (wrap64 (wrap64 (2 ^ h) - 1)) = ((halves h k).2 : Int) := by
  have h1 := side_le hh
  have h0 : 0 < 2 ^ h := Nat.pow_pos (by omega)
  have e : (2 : Int) ^ h = ((2 ^ h : Nat) : Int) := by simp
  have e2 : wrap64 (wrap64 (2 ^ h) - 1) = ((2 ^ h - 1 : Nat) : Int) := by
    rw [e]
    unfold wrap64
    omega
  rw [e2, i64_and_nat _ _ hk (by omega), Nat.and_two_pow_sub_one_eq_mod]
  rfl
theorem join_eq {h l r : Nat} (hh : h ≤ 20) (hl : l < 2 ^ h) (hr : r < 2 ^ h) : bits .or .i64 (wrap64 ((l : Int) * 2 ^ h)) (r : Int) = (joinH h (l, r) : Int) := by
  have h1 := side_le hh
  have e : (l : Int) * (2 : Int) ^ h = ((l * 2 ^ h : Nat) : Int) := by simp
  have hb : l * 2 ^ h ≤ 1048576 * 1048576 := Nat.mul_le_mul (by omega) h1
  have e2 : wrap64 ((l : Int) * 2 ^ h) = ((l * 2 ^ h : Nat) : Int) := by
    rw [e]
    unfold wrap64
    omega
  rw [e2, i64_or_nat _ _ (by omega) (by omega)]
  have := Nat.shiftLeft_add_eq_or_of_lt hr l
  rw [Nat.shiftLeft_eq] at this
  rw [← this]
  rfl

set_option maxHeartbeats 2000000 in
set_option maxRecDepth 100000 in
theorem back_any (seed : Int) (h k : Nat) (hh : h ≤ 20) (hk : k < 2 ^ h * 2 ^ h) (w : World) : Calls Try.prog 50 #[.agg #[.int .u64 seed, .int .i64 h], .int .i64 k] w fun e w' => e = .returned (.int .i64 (backN (partN seed h) h k)) ∧ New w w' := by
  have hk40 : k < 1099511627776 := Nat.lt_of_lt_of_le hk (by rw [← Nat.pow_add]; exact Nat.le_trans (Nat.pow_le_pow_right (by omega) (show h + h ≤ 40 by omega)) (by decide))
  have HK := Lib.hid hk
  clear hk
  go_enter Try.func50, Try.ntmps50
  go_wp2_with fail
  go_quiet (fail)
  rw [left_eq, right_eq hh (by omega)]
  have hlt := halves_lt HK.out
  obtain ⟨l0, r0, hx0⟩ : ∃ l r, halves h k = (l, r) := ⟨_, _, rfl⟩
  rw [hx0] at hlt ⊢
  have hl0 : l0 < 2 ^ h := hlt.1
  have hr0 : r0 < 2 ^ h := hlt.2
  have hside := side_le hh
  have hn1 : New w ((w.alloc (.cells #[.int .u64 seed, .int .i64 h] 85)).drewN nq) := ((Chg.refl _ w).alloc _).drewN _
  have hb1 : Blk ((w.alloc (.cells #[.int .u64 seed, .int .i64 h] 85)).drewN nq) w.heap.size 85 #[.int .u64 seed, .int .i64 h] := (Blk.new _ _ _).drewN _
  generalize ((w.alloc (.cells #[.int .u64 seed, .int .i64 h] 85)).drewN nq) = w1 at *
  have H1 := Lib.hid (And.intro hn1 (And.intro hb1 hx0))
  have HS := Lib.hid (And.intro hl0 (And.intro hr0 hside))
  clear hn1 hb1 hx0 hlt hl0 hr0 hside
  go_wp2_with fail
  refine (rounds_any w1).mono ?_
  rintro e w2 ⟨rfl, hn2⟩
  have hn3 : New w1 (w2.alloc (.cells #[.int .i64 0, .int .i64 1, .int .i64 2, .int .i64 3] 104)) := hn2.alloc _
  have hb3 : Blk (w2.alloc (.cells #[.int .i64 0, .int .i64 1, .int .i64 2, .int .i64 3] 104)) w2.heap.size 104 #[.int .i64 0, .int .i64 1, .int .i64 2, .int .i64 3] := Blk.new _ _ _
  have H3 := Lib.hid (And.intro (H1.out.1.new hn3) (And.intro (H1.out.2.1.chg hn3 (fun h => h)) (And.intro hb3 H1.out.2.2)))
  clear hn2 hn3 hb3 H1
  go_wp2_with fail
  generalize hw3 : (w2.alloc (.cells #[.int .i64 0, .int .i64 1, .int .i64 2, .int .i64 3] 104)) = w3 at *
  clear hw3
  generalize w2.heap.size = g at *
  go_loopw [5, 6, 8] (fun l r i wr => ∃ j l' r' : Nat, j ≤ 4 ∧ l = .int .i64 l' ∧ r = .int .i64 r' ∧ i = .int .i64 ((j : Int) - 1) ∧ bwd (partN seed h) j (l', r') = bwd (partN seed h) 4 (l0, r0) ∧ l' < 2 ^ h ∧ r' < 2 ^ h ∧ New w3 wr)
    (fun _ _ i _ => (intOf i + 1).toNat)
  case atStart => exact ⟨4, l0, r0, by omega, rfl, rfl, rfl, rfl, HS.out.1, HS.out.2.1, Chg.refl _ _⟩
  case round =>
    obtain ⟨j, l, r, hj, rfl, rfl, rfl, hbw, hl, hr, hnew⟩ := hrel
    have hside := HS.out.2.2
    have hb4 := H3.out.2.1.chg hnew (fun h => h)
    have hc0 := hb4.cell 0 rfl
    have hc1 := hb4.cell 1 rfl
    have hlb : l < 1048576 := Nat.lt_of_lt_of_le hl hside
    have hrb : r < 1048576 := Nat.lt_of_lt_of_le hr hside
    have HW := Lib.hid (And.intro hbw (And.intro hl (And.intro hr hnew)))
    rcases j with _ | j
    · clear hbw hl hr hside
      have hi : decide ((0 : Int) ≤ ((0 : Nat) : Int) - 1) = false := by simp
      go_wp2
      go_ret
      obtain ⟨hbw, hl, hr, hnew⟩ := HW.out
      refine ⟨ret_int ?_, H3.out.1.new hnew⟩
      rw [join_eq hh hl hr]
      unfold backN
      rw [H3.out.2.2.2, ← hbw]
      rfl
    · have hij : ((j + 1 : Nat) : Int) - 1 = (j : Int) := by omega
      rw [hij]
      have hlist := H3.out.2.2.1.chg hnew (fun h => h)
      have hcell : wr.cell? ⟨g, j, none⟩ = some (.int .i64 (j : Int)) := by
        rcases j with _ | _ | _ | _ | j
        · exact hlist.cell 0 rfl
        · exact hlist.cell 1 rfl
        · exact hlist.cell 2 rfl
        · exact hlist.cell 3 rfl
        · omega
      have hji : (j : Int) < 4 := by omega
      have hpart := part_any seed h hh j l wr.drew
      have hpl := partN_lt seed h j l
      clear hbw hl hr hside hnew hlist hij
      go_wp2_with fail
      go_region_with (first
        | (go_at_call 70; refine hpart.mono ?_; rintro e w5 ⟨rfl, HN5⟩))
      all_goals
        go_wp2
        go_roundw
        case rel =>
          obtain ⟨hbw, hl, hr, hnew⟩ := HW.out
          have hside := HS.out.2.2
          refine ⟨j, r ^^^ partN seed h j l, l, by omega, ?_, rfl, by go_num, hbw, Nat.xor_lt_two_pow hr hpl, hl, hnew.drew.new HN5⟩
          rw [i64_xor_nat r _ (by omega) (by omega)]
        case measure => simp [intOf]
set_option maxHeartbeats 2000000 in
set_option maxRecDepth 100000 in
theorem forth_any (seed : Int) (h k : Nat) (hh : h ≤ 20) (hk : k < 2 ^ h * 2 ^ h) (w : World) : Calls Try.prog 48 #[.agg #[.int .u64 seed, .int .i64 h], .int .i64 k] w fun e w' => e = .returned (.int .i64 (forthN (partN seed h) h k)) ∧ New w w' := by
  have hk40 : k < 1099511627776 := Nat.lt_of_lt_of_le hk (by rw [← Nat.pow_add]; exact Nat.le_trans (Nat.pow_le_pow_right (by omega) (show h + h ≤ 40 by omega)) (by decide))
  have HK := Lib.hid hk
  clear hk
  go_enter Try.func48, Try.ntmps48
  go_wp2_with fail
  go_quiet (fail)
  rw [left_eq, right_eq hh (by omega)]
  have hlt := halves_lt HK.out
  obtain ⟨l0, r0, hx0⟩ : ∃ l r, halves h k = (l, r) := ⟨_, _, rfl⟩
  rw [hx0] at hlt ⊢
  have hl0 : l0 < 2 ^ h := hlt.1
  have hr0 : r0 < 2 ^ h := hlt.2
  have hside := side_le hh
  have hn1 : New w ((w.alloc (.cells #[.int .u64 seed, .int .i64 h] 85)).drewN nq) := ((Chg.refl _ w).alloc _).drewN _
  have hb1 : Blk ((w.alloc (.cells #[.int .u64 seed, .int .i64 h] 85)).drewN nq) w.heap.size 85 #[.int .u64 seed, .int .i64 h] := (Blk.new _ _ _).drewN _
  generalize ((w.alloc (.cells #[.int .u64 seed, .int .i64 h] 85)).drewN nq) = w1 at *
  have H1 := Lib.hid (And.intro hn1 (And.intro hb1 hx0))
  have HS := Lib.hid (And.intro hl0 (And.intro hr0 hside))
  clear hn1 hb1 hx0 hlt hl0 hr0 hside
  go_wp2_with fail
  refine (rounds_any w1).mono ?_
  rintro e w2 ⟨rfl, hn2⟩
  have hn3 : New w1 (w2.alloc (.cells #[.int .i64 0, .int .i64 1, .int .i64 2, .int .i64 3] 104)) := hn2.alloc _
  have hb3 : Blk (w2.alloc (.cells #[.int .i64 0, .int .i64 1, .int .i64 2, .int .i64 3] 104)) w2.heap.size 104 #[.int .i64 0, .int .i64 1, .int .i64 2, .int .i64 3] := Blk.new _ _ _
  have H3 := Lib.hid (And.intro (H1.out.1.new hn3) (And.intro (H1.out.2.1.chg hn3 (fun h => h)) (And.intro hb3 H1.out.2.2)))
  clear hn2 hn3 hb3 H1
  go_wp2_with fail
  generalize hw3 : (w2.alloc (.cells #[.int .i64 0, .int .i64 1, .int .i64 2, .int .i64 3] 104)) = w3 at *
  clear hw3
  generalize w2.heap.size = g at *
  go_loopw [5, 6, 20] (fun l r i wr => ∃ j l' r' : Nat, j ≤ 4 ∧ l = .int .i64 l' ∧ r = .int .i64 r' ∧ i = .int .i64 (j : Int) ∧ fwd (partN seed h) j (l0, r0) = (l', r') ∧ l' < 2 ^ h ∧ r' < 2 ^ h ∧ New w3 wr)
    (fun _ _ i _ => 4 - (intOf i).toNat)
  case atStart => exact ⟨0, l0, r0, by omega, rfl, rfl, rfl, rfl, HS.out.1, HS.out.2.1, Chg.refl _ _⟩
  case round =>
    obtain ⟨j, l, r, hj, rfl, rfl, rfl, hbw, hl, hr, hnew⟩ := hrel
    have hside := HS.out.2.2
    have hb4 := H3.out.2.1.chg hnew (fun h => h)
    have hc0 := hb4.cell 0 rfl
    have hc1 := hb4.cell 1 rfl
    have hlb : l < 1048576 := Nat.lt_of_lt_of_le hl hside
    have hrb : r < 1048576 := Nat.lt_of_lt_of_le hr hside
    have HW := Lib.hid (And.intro hbw (And.intro hl (And.intro hr hnew)))
    by_cases hjl : j = 4
    · subst hjl
      clear hbw hl hr hside
      go_wp2
      go_ret
      obtain ⟨hbw, hl, hr, hnew⟩ := HW.out
      refine ⟨ret_int ?_, H3.out.1.new hnew⟩
      rw [join_eq hh hl hr]
      unfold forthN
      rw [H3.out.2.2.2, hbw]
    · have hlist := H3.out.2.2.1.chg hnew (fun h => h)
      have hcell : wr.cell? ⟨g, j, none⟩ = some (.int .i64 (j : Int)) := by
        rcases j with _ | _ | _ | _ | j
        · exact hlist.cell 0 rfl
        · exact hlist.cell 1 rfl
        · exact hlist.cell 2 rfl
        · exact hlist.cell 3 rfl
        · omega
      have hji : (j : Int) < 4 := by omega
      have hpart := part_any seed h hh j r wr.drew
      have hpl := partN_lt seed h j r
      clear hbw hl hr hside hnew hlist
      go_wp2_with fail
      go_region_with (first
        | (go_at_call 70; refine hpart.mono ?_; rintro e w5 ⟨rfl, HN5⟩))
      all_goals
        go_wp2
        go_roundw
        case rel =>
          obtain ⟨hbw, hl, hr, hnew⟩ := HW.out
          have hside := HS.out.2.2
          refine ⟨j + 1, r, l ^^^ partN seed h j r, by omega, rfl, ?_, by go_num, ?_, hr, Nat.xor_lt_two_pow hl hpl, hnew.drew.new HN5⟩
          · rw [i64_xor_nat l _ (by omega) (by omega)]
          · show ((fwd (partN seed h) j (l0, r0)).2, (fwd (partN seed h) j (l0, r0)).1 ^^^ partN seed h j (fwd (partN seed h) j (l0, r0)).2) = _
            rw [hbw]
        case measure => simp [intOf]; omega

end Go.Proofs.Ytcjbndlhomokpaa
