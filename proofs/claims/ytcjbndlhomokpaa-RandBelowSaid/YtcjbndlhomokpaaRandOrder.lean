/- Contracts of rand.Order, rand.Place, and of the model's Order. -/
import Derived.Test.YtcjbndlhomokpaaRandBack
namespace Go.Proofs.Ytcjbndlhomokpaa
open Go.RowKit Go.Shelf Go.Mem Go.Pure

/-- What is wrong with the arguments of Order. -/
def boundsI (n k : Int) : Int := if n < 1 ∨ 1099511627776 < n then 1 else if k < 0 ∨ n ≤ k then 5 else 0
theorem boundsI_ok {n k : Int} (h : boundsI n k = 0) : 1 ≤ n ∧ n ≤ 1099511627776 ∧ 0 ≤ k ∧ k < n := by
  unfold boundsI at h
  split at h
  · cases h
  · split at h
    · cases h
    · omega
theorem boundsI_of {n k : Int} (h1 : 1 ≤ n) (h2 : n ≤ 1099511627776) (h3 : 0 ≤ k) (h4 : k < n) : boundsI n k = 0 := by
  unfold boundsI
  rw [if_neg (by omega), if_neg (by omega)]

set_option maxHeartbeats 1000000 in
theorem bounds_any (n k : Int) (w : World) : Calls Try.prog 46 #[.int .i64 n, .int .i64 k] w fun e w' => e = .returned (.int .i64 (boundsI n k)) ∧ w = w' := by
  by_cases h1 : n < 1
  · go_enter Try.func46, Try.ntmps46
    go_wp2
    go_ret
    exact ⟨ret_int (by unfold boundsI; rw [if_pos (.inl h1)]), rfl⟩
  · have g1 : decide (n < 1) = false := by simp; omega
    by_cases h2 : 1099511627776 < n
    · go_enter Try.func46, Try.ntmps46
      go_wp2
      go_ret
      exact ⟨ret_int (by unfold boundsI; rw [if_pos (.inr h2)]), rfl⟩
    · have g2 : decide (1099511627776 < n) = false := by simp; omega
      by_cases h3 : k < 0
      · go_enter Try.func46, Try.ntmps46
        go_wp2
        go_ret
        exact ⟨ret_int (by unfold boundsI; rw [if_neg (by omega), if_pos (.inl h3)]), rfl⟩
      · have g3 : decide (k < 0) = false := by simp; omega
        by_cases h4 : n ≤ k
        · go_enter Try.func46, Try.ntmps46
          go_wp2
          go_ret
          exact ⟨ret_int (by unfold boundsI; rw [if_neg (by omega), if_pos (.inr h4)]), rfl⟩
        · have g4 : decide (n ≤ k) = false := by simp; omega
          go_enter Try.func46, Try.ntmps46
          go_wp2
          go_ret
          exact ⟨ret_int (by unfold boundsI; rw [if_neg (by omega), if_neg (by omega)]), rfl⟩

/-- The half for n numbers (20 where there is none). -/
theorem half_ex (n : Nat) (hn : n ≤ 1099511627776) : ∃ h, IsHalf n h := by
  obtain ⟨t, ht, hmin⟩ := least (P := fun t => n ≤ 4 ^ (t + 1)) ⟨19, by show n ≤ 4 ^ 20; omega⟩
  refine ⟨t + 1, by omega, ht, fun j h1 h2 => ?_⟩
  have := hmin (j - 1) (by omega)
  rw [show j - 1 + 1 = j by omega] at this
  omega
open Classical in
noncomputable def halfN (n : Nat) : Nat := if h : ∃ g, IsHalf n g then h.choose else 20
theorem halfN_eq {n h : Nat} (H : IsHalf n h) : halfN n = h := by
  unfold halfN
  rw [dif_pos ⟨h, H⟩]
  exact IsHalf.uniq (Exists.choose_spec _) H
theorem sq_pow (h : Nat) : 2 ^ h * 2 ^ h = 4 ^ h := by rw [four_pow, ← Nat.pow_add]; congr 1; omega
/-- Where the k-th of n is. -/
noncomputable def orderN (seed : Int) (n k : Nat) : Nat := land (forthN (partN seed (halfN n)) (halfN n)) n k
noncomputable def placeN (seed : Int) (n k : Nat) : Nat := land (backN (partN seed (halfN n)) (halfN n)) n k
theorem permN (seed : Int) {n h : Nat} (H : IsHalf n h) : Perm (forthN (partN seed h) h) (backN (partN seed h) h) (4 ^ h) := by
  have := feistel (p := partN seed h) (h := h) (fun i r => partN_lt seed h i r)
  rwa [sq_pow] at this
theorem order_lt (seed : Int) {n k : Nat} (hn : n ≤ 1099511627776) (hk : k < n) : orderN seed n k < n := by
  obtain ⟨h, H⟩ := half_ex n hn
  unfold orderN
  rw [halfN_eq H]
  exact land_lt (permN seed H) H.2.1 hk
theorem place_lt (seed : Int) {n k : Nat} (hn : n ≤ 1099511627776) (hk : k < n) : placeN seed n k < n := by
  obtain ⟨h, H⟩ := half_ex n hn
  unfold placeN
  rw [halfN_eq H]
  exact land_lt (permN seed H).symm H.2.1 hk
theorem place_order (seed : Int) {n k : Nat} (hn : n ≤ 1099511627776) (hk : k < n) : placeN seed n (orderN seed n k) = k := by
  obtain ⟨h, H⟩ := half_ex n hn
  unfold placeN orderN
  rw [halfN_eq H]
  exact land_back (permN seed H) H.2.1 hk
theorem order_place (seed : Int) {n k : Nat} (hn : n ≤ 1099511627776) (hk : k < n) : orderN seed n (placeN seed n k) = k := by
  obtain ⟨h, H⟩ := half_ex n hn
  unfold placeN orderN
  rw [halfN_eq H]
  exact land_back (permN seed H).symm H.2.1 hk

/-- The walk of land: x has been reached, dist is what is left. -/
theorem land_walk {f : Nat → Nat} {n k x : Nat} (h : ∃ t, iter f t x < n) (e : land f n k = iter f (dist f n x) x) (hx : ¬ x < n) : (∃ t, iter f t (f x) < n) ∧ land f n k = iter f (dist f n (f x)) (f x) ∧ dist f n (f x) < dist f n x := by
  obtain ⟨h1, h2⟩ := dist_step h hx
  refine ⟨h2, ?_, by omega⟩
  rw [e, h1]
  rfl
theorem dist_zero {f : Nat → Nat} {n x : Nat} (hx : x < n) : dist f n x = 0 := by
  have h : ∃ t, iter f t x < n := ⟨0, hx⟩
  obtain ⟨_, h2⟩ := dist_spec h
  rcases Nat.eq_zero_or_pos (dist f n x) with h0 | h0
  · exact h0
  · exact absurd hx (h2 0 h0)

set_option maxHeartbeats 2000000 in
set_option maxRecDepth 100000 in
theorem order_any (seed : Int) (n k : Int) (w : World) (hn : -9223372036854775808 ≤ n ∧ n ≤ 9223372036854775807) : Calls Try.prog 27 #[.int .u64 seed, .int .i64 n, .int .i64 k] w fun e w' =>
    e = .returned (.tuple #[.int .i64 (if boundsI n k = 0 then (orderN seed n.toNat k.toNat : Int) else 0), .int .i64 (boundsI n k)]) ∧ New w w' := by
  by_cases hb : boundsI n k = 0
  · obtain ⟨h1, h2, h3, h4⟩ := boundsI_ok hb
    obtain ⟨N, rfl⟩ : ∃ N : Nat, n = (N : Int) := ⟨n.toNat, by omega⟩
    obtain ⟨K, rfl⟩ : ∃ K : Nat, k = (K : Int) := ⟨k.toNat, by omega⟩
    have hN : N ≤ 1099511627776 := by omega
    have hK : K < N := by omega
    rw [if_pos hb, hb, Int.toNat_natCast, Int.toNat_natCast]
    have HB := Lib.hid hb
    clear hb h1 h2 h3 h4 hn
    obtain ⟨h, hH⟩ := half_ex N hN
    have hh := hH.le hN
    have hon : orderN seed N K = land (forthN (partN seed h) h) N K := by unfold orderN; rw [halfN_eq hH]
    rw [hon]
    clear hon
    have hperm := permN seed hH
    obtain ⟨f, hf⟩ : ∃ f, forthN (partN seed h) h = f := ⟨_, rfl⟩
    have hfa := fun x (hx : x < 4 ^ h) W => forth_any seed h x hh (by rw [sq_pow]; exact hx) W
    rw [hf] at hfa hperm ⊢
    have HF := Lib.hid (And.intro hperm (And.intro hfa (And.intro hH hf)))
    have hN4 := hH.2.1
    obtain ⟨M, hM⟩ : ∃ M, 4 ^ h = M := ⟨_, rfl⟩
    have hMb : M ≤ 1099511627776 := by rw [← hM]; exact Nat.le_trans (Nat.pow_le_pow_right (by omega) hh) (by decide)
    rw [hM] at hN4 HF
    clear hM hf hperm hfa hH
    go_enter Try.func27, Try.ntmps27
    go_wp2_with fail
    refine (bounds_any (N : Int) (K : Int) w).mono ?_
    rintro e w1 ⟨rfl, rfl⟩
    rw [HB.out]
    go_wp2_with fail
    refine (newMixer_any seed N hN w).mono ?_
    rintro e w2 ⟨h', rfl, hH', hn2⟩
    obtain rfl : h' = h := hH'.uniq HF.out.2.2.1
    have hn3 : New w (w2.alloc (.cells #[.int .u64 seed, .int .i64 h'] 85)) := hn2.alloc _
    have hb3 : Blk (w2.alloc (.cells #[.int .u64 seed, .int .i64 h'] 85)) w2.heap.size 85 #[.int .u64 seed, .int .i64 h'] := Blk.new _ _ _
    have H3 := Lib.hid (And.intro hn3 hb3)
    clear hn2 hn3 hb3 hH'
    go_wp2_with fail
    generalize hw3 : (w2.alloc (.cells #[.int .u64 seed, .int .i64 h'] 85)) = w3 at *
    clear hw3
    generalize w2.heap.size = g at *
    refine (HF.out.2.1 K (by omega) w3).mono ?_
    rintro e w4 ⟨rfl, hn4⟩
    have H4 := Lib.hid (And.intro (H3.out.1.new hn4) (H3.out.2.chg hn4 (fun h => h)))
    clear hn4
    go_wp2_with fail
    go_loopw [2] (fun x wr => ∃ y : Nat, x = .int .i64 y ∧ y < M ∧ (∃ t, iter f t y < N) ∧ land f N K = iter f (dist f N y) y ∧ New w4 wr) (fun x _ => dist f N (intOf x).toNat)
    case atStart => exact ⟨f K, rfl, HF.out.1.fl K (by omega), land_ex HF.out.1 hN4 hK, rfl, Chg.refl _ _⟩
    case round =>
      obtain ⟨y, rfl, hy, hex, hland, hnew⟩ := hrel
      have HX := Lib.hid (And.intro hex (And.intro hland hnew))
      have hb5 := H4.out.2.chg hnew (fun h => h)
      have hc0 := hb5.cell 0 rfl
      have hc1 := hb5.cell 1 rfl
      clear hex hland hnew
      by_cases hlt : y < N
      · have hge : decide ((N : Int) ≤ (y : Int)) = false := by simp; omega
        go_wp2
        go_ret2
        obtain ⟨hex, hland, hnew⟩ := HX.out
        rw [hland, dist_zero hlt]
        exact ⟨rfl, H4.out.1.new hnew⟩
      · have hge : (N : Int) ≤ (y : Int) := by omega
        go_wp2_with fail
        refine (HF.out.2.1 y hy wr).mono ?_
        rintro e w6 ⟨rfl, hn6⟩
        have HN6 := Lib.hid hn6
        clear hn6
        go_wp2
        go_roundw
        case rel =>
          obtain ⟨hex, hland, hnew⟩ := HX.out
          obtain ⟨h1, h2, h3⟩ := land_walk hex hland hlt
          exact ⟨f y, rfl, HF.out.1.fl y hy, h1, h2, hnew.new HN6.out⟩
        case measure =>
          obtain ⟨hex, hland, hnew⟩ := HX.out
          obtain ⟨h1, h2, h3⟩ := land_walk hex hland hlt
          simpa [intOf] using h3
  · have HB := Lib.hid hb
    have hne : (boundsI n k == 0) = false := by simpa using hb
    have hne' : (boundsI n k != 0) = true := by simpa using hb
    rw [if_neg hb]
    clear hb
    obtain ⟨B, hB⟩ : ∃ B, boundsI n k = B := ⟨_, rfl⟩
    rw [hB] at hne hne' ⊢
    have HBB := Lib.hid hB
    clear hB
    go_enter Try.func27, Try.ntmps27
    go_wp2_with fail
    refine (bounds_any n k w).mono ?_
    rintro e w1 ⟨rfl, rfl⟩
    rw [HBB.out]
    go_wp2
    go_ret2
    exact ⟨rfl, Chg.refl _ _⟩

set_option maxHeartbeats 2000000 in
set_option maxRecDepth 100000 in
theorem place_any (seed : Int) (n k : Int) (w : World) (hn : -9223372036854775808 ≤ n ∧ n ≤ 9223372036854775807) : Calls Try.prog 29 #[.int .u64 seed, .int .i64 n, .int .i64 k] w fun e w' =>
    e = .returned (.tuple #[.int .i64 (if boundsI n k = 0 then (placeN seed n.toNat k.toNat : Int) else 0), .int .i64 (boundsI n k)]) ∧ New w w' := by
  by_cases hb : boundsI n k = 0
  · obtain ⟨h1, h2, h3, h4⟩ := boundsI_ok hb
    obtain ⟨N, rfl⟩ : ∃ N : Nat, n = (N : Int) := ⟨n.toNat, by omega⟩
    obtain ⟨K, rfl⟩ : ∃ K : Nat, k = (K : Int) := ⟨k.toNat, by omega⟩
    have hN : N ≤ 1099511627776 := by omega
    have hK : K < N := by omega
    rw [if_pos hb, hb, Int.toNat_natCast, Int.toNat_natCast]
    have HB := Lib.hid hb
    clear hb h1 h2 h3 h4 hn
    obtain ⟨h, hH⟩ := half_ex N hN
    have hh := hH.le hN
    have hon : placeN seed N K = land (backN (partN seed h) h) N K := by unfold placeN; rw [halfN_eq hH]
    rw [hon]
    clear hon
    have hperm := (permN seed hH).symm
    obtain ⟨f, hf⟩ : ∃ f, backN (partN seed h) h = f := ⟨_, rfl⟩
    have hfa := fun x (hx : x < 4 ^ h) W => back_any seed h x hh (by rw [sq_pow]; exact hx) W
    rw [hf] at hfa hperm ⊢
    have HF := Lib.hid (And.intro hperm (And.intro hfa (And.intro hH hf)))
    have hN4 := hH.2.1
    obtain ⟨M, hM⟩ : ∃ M, 4 ^ h = M := ⟨_, rfl⟩
    have hMb : M ≤ 1099511627776 := by rw [← hM]; exact Nat.le_trans (Nat.pow_le_pow_right (by omega) hh) (by decide)
    rw [hM] at hN4 HF
    clear hM hf hperm hfa hH
    go_enter Try.func29, Try.ntmps29
    go_wp2_with fail
    refine (bounds_any (N : Int) (K : Int) w).mono ?_
    rintro e w1 ⟨rfl, rfl⟩
    rw [HB.out]
    go_wp2_with fail
    refine (newMixer_any seed N hN w).mono ?_
    rintro e w2 ⟨h', rfl, hH', hn2⟩
    obtain rfl : h' = h := hH'.uniq HF.out.2.2.1
    have hn3 : New w (w2.alloc (.cells #[.int .u64 seed, .int .i64 h'] 85)) := hn2.alloc _
    have hb3 : Blk (w2.alloc (.cells #[.int .u64 seed, .int .i64 h'] 85)) w2.heap.size 85 #[.int .u64 seed, .int .i64 h'] := Blk.new _ _ _
    have H3 := Lib.hid (And.intro hn3 hb3)
    clear hn2 hn3 hb3 hH'
    go_wp2_with fail
    generalize hw3 : (w2.alloc (.cells #[.int .u64 seed, .int .i64 h'] 85)) = w3 at *
    clear hw3
    generalize w2.heap.size = g at *
    refine (HF.out.2.1 K (by omega) w3).mono ?_
    rintro e w4 ⟨rfl, hn4⟩
    have H4 := Lib.hid (And.intro (H3.out.1.new hn4) (H3.out.2.chg hn4 (fun h => h)))
    clear hn4
    go_wp2_with fail
    go_loopw [2] (fun x wr => ∃ y : Nat, x = .int .i64 y ∧ y < M ∧ (∃ t, iter f t y < N) ∧ land f N K = iter f (dist f N y) y ∧ New w4 wr) (fun x _ => dist f N (intOf x).toNat)
    case atStart => exact ⟨f K, rfl, HF.out.1.fl K (by omega), land_ex HF.out.1 hN4 hK, rfl, Chg.refl _ _⟩
    case round =>
      obtain ⟨y, rfl, hy, hex, hland, hnew⟩ := hrel
      have HX := Lib.hid (And.intro hex (And.intro hland hnew))
      have hb5 := H4.out.2.chg hnew (fun h => h)
      have hc0 := hb5.cell 0 rfl
      have hc1 := hb5.cell 1 rfl
      clear hex hland hnew
      by_cases hlt : y < N
      · have hge : decide ((N : Int) ≤ (y : Int)) = false := by simp; omega
        go_wp2
        go_ret2
        obtain ⟨hex, hland, hnew⟩ := HX.out
        rw [hland, dist_zero hlt]
        exact ⟨rfl, H4.out.1.new hnew⟩
      · have hge : (N : Int) ≤ (y : Int) := by omega
        go_wp2_with fail
        refine (HF.out.2.1 y hy wr).mono ?_
        rintro e w6 ⟨rfl, hn6⟩
        have HN6 := Lib.hid hn6
        clear hn6
        go_wp2
        go_roundw
        case rel =>
          obtain ⟨hex, hland, hnew⟩ := HX.out
          obtain ⟨h1, h2, h3⟩ := land_walk hex hland hlt
          exact ⟨f y, rfl, HF.out.1.fl y hy, h1, h2, hnew.new HN6.out⟩
        case measure =>
          obtain ⟨hex, hland, hnew⟩ := HX.out
          obtain ⟨h1, h2, h3⟩ := land_walk hex hland hlt
          simpa [intOf] using h3
  · have HB := Lib.hid hb
    have hne : (boundsI n k == 0) = false := by simpa using hb
    have hne' : (boundsI n k != 0) = true := by simpa using hb
    rw [if_neg hb]
    clear hb
    obtain ⟨B, hB⟩ : ∃ B, boundsI n k = B := ⟨_, rfl⟩
    rw [hB] at hne hne' ⊢
    have HBB := Lib.hid hB
    clear hB
    go_enter Try.func29, Try.ntmps29
    go_wp2_with fail
    refine (bounds_any n k w).mono ?_
    rintro e w1 ⟨rfl, rfl⟩
    rw [HBB.out]
    go_wp2
    go_ret2
    exact ⟨rfl, Chg.refl _ _⟩
end Go.Proofs.Ytcjbndlhomokpaa
