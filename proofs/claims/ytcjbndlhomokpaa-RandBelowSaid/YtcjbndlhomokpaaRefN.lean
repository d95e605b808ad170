/- Contracts of refuterref05.Below and Pick; rand.Below where the bound is refused. -/
import Derived.Test.YtcjbndlhomokpaaRefM
import Derived.Test.YtcjbndlhomokpaaRandPick
namespace Go.Proofs.Ytcjbndlhomokpaa
set_option linter.unusedVariables false
open Go.RowKit Go.Mem Go.Dig Go.Pure

theorem val_one (B x : Nat) : val B [x] = x := by rw [val_cons, val_nil, Nat.mul_zero, Nat.add_zero]
theorem wordsL_one (seed : Int) (lab : List UInt8) (i : Int) : wordsL seed lab i 1 = [(wordI seed lab i).toNat] := by
  unfold wordsL
  rw [show List.range 1 = [0] from rfl, List.map_cons, List.map_nil, show i + ((0 : Nat) : Int) = i by omega]
theorem try1 (seed : Int) (lab : List UInt8) (i : Int) (t : Nat) : ((tryN seed lab i 1 t : Nat) : Int) = wordI seed lab (i + (t : Nat)) := by
  have := wordI_range seed lab (i + (t : Nat))
  unfold tryN
  rw [wordsL_one, val_one, Nat.mul_one]
  omega
theorem taken_of {seed : Int} {lab : List UInt8} {i : Int} {N t : Nat} (hN : 1 ≤ N) (h : Taken (tryN seed lab i 1) (2 ^ (64 * 1) - 2 ^ (64 * 1) % N) t) : takenN seed lab i N = t := by
  rw [show (2 : Nat) ^ (64 * 1) = 18446744073709551616 from rfl] at h
  have hm := Nat.mod_lt 18446744073709551616 (show 0 < N by omega)
  have hm2 := Nat.mod_le 18446744073709551616 N
  refine taken_eq (by have := h.le; omega) (fun j hj ht => ?_) ?_
  · have h1 := h.skip j hj
    have h2 := try1 seed lab i j
    have h3 := wordI_range seed lab (i + (j : Nat))
    unfold takes overN at ht
    generalize 18446744073709551616 % N = o at *
    rcases ht with ht | ht <;> omega
  · rcases h.stop with h1 | h1
    · left
      right
      have h2 := try1 seed lab i t
      unfold overN
      generalize 18446744073709551616 % N = o at *
      omega
    · exact .inr h1

set_option maxHeartbeats 1000000 in
theorem rbelow_any (seed : Int) (s : ByteArray) (hs : s.size ≤ 1000000) (i : Int) (hi : 0 ≤ i ∧ i ≤ 1000000000) (N : Nat) (hN1 : 1 ≤ N) (hN : N ≤ 4611686018427387904) (w : World) :
    Calls Try.prog 12 #[.int .u64 seed, .string s, .int .i64 i, .int .i64 N] w fun e w' =>
      e = .returned (.tuple #[.int .i64 (wordI seed s.data.toList (i + takenN seed s.data.toList i N) % N), .int .i64 (i + takenN seed s.data.toList i N + 1)]) ∧ New w w' := by
  obtain ⟨T, hT⟩ : ∃ T, takenN seed s.data.toList i N = T := ⟨_, rfl⟩
  rw [hT]
  obtain ⟨R, hR⟩ : ∃ R, wordI seed s.data.toList (i + T) % N = R := ⟨_, rfl⟩
  rw [hR]
  have hbig : ∀ v W, RN W v (N : Int) → Calls Try.prog 32 #[.int .u64 seed, .string s, .int .i64 i, v, .int .i64 1] W fun e w' => ∃ sb Ab nb cb, e = .returned (.tuple #[.agg #[.bool sb, .slice Ab nb cb], .int .i64 (i + T + 1)]) ∧ Hid (RN w' (.agg #[.bool sb, .slice Ab nb cb]) R ∧ New W w') := fun v W hv => by
    refine (rbig_any seed s hs i hi v N hN1 (Nat.lt_of_le_of_lt hN (Nat.lt_of_lt_of_le (show 4611686018427387904 < 2 ^ 63 by decide) (pow_le2 63 900000 (by decide)))) 1 (by omega) W hv).mono ?_
    rintro e w' ⟨sb, Ab, nb, cb, t, rfl, hh⟩
    obtain ⟨h1, h2, h3⟩ := hh.out
    have ht := taken_of hN1 h1
    rw [hT] at ht
    subst ht
    refine ⟨sb, Ab, nb, cb, ?_, ?_, h3⟩
    · rw [show i + ((T * 1 : Nat) : Int) + ((1 : Nat) : Int) = i + T + 1 by omega]
    · rw [← hR, ← try1, ← Int.natCast_emod]; exact h2
  have hRr : 0 ≤ R ∧ R < N := by rw [← hR]; exact ⟨Int.emod_nonneg _ (by omega), Int.emod_lt_of_pos _ (by omega)⟩
  have HB := Lib.hid hbig
  obtain ⟨hR1, hR2⟩ := hRr
  have g1 : decide ((N : Int) < 1) = false := by simp; omega
  have g2 : decide ((4611686018427387904 : Int) < (N : Int)) = false := by simp; omega
  clear hbig hT hR
  obtain ⟨Z, hZ⟩ : ∃ Z, i + (T : Int) + 1 = Z := ⟨_, rfl⟩
  rw [hZ] at HB ⊢
  clear hZ
  go_enter Try.func12, Try.ntmps12
  go_wp2_with fail
  refine (of_h (N : Int) w (by omega) (by omega)).mono ?_
  rintro e w1 ⟨s1, A1, n1, c1, rfl, H1⟩
  go_wp2_with fail
  refine (HB.out _ w1 H1.out.1).mono ?_
  rintro e w2 ⟨s2, A2, n2, c2, rfl, H2⟩
  have hn2 := H1.out.2.new H2.out.2
  have HN2 := Lib.hid hn2
  clear hn2
  go_wp2_with fail
  refine Calls.new1 ?_
  intro W3 hb3 hn3 hz3
  refine (rsmall_any _ R W3 (H2.out.1.new hn3) (by omega) (by omega)).mono ?_
  rintro e w4 ⟨rfl, hn4⟩
  have HN4 := Lib.hid (HN2.out.new (hn3.new hn4))
  clear hb3 hn3 hz3 hn4
  go_wp2
  go_ret2
  exact ⟨rfl, HN4.out⟩

set_option maxHeartbeats 1000000 in
theorem rbelow_bad (seed : Int) (s : ByteArray) (i n : Int) (hn : n < 1 ∨ 4611686018427387904 < n) (w : World) :
    Calls Try.prog 12 #[.int .u64 seed, .string s, .int .i64 i, .int .i64 n] w fun e w' => e = .returned (.tuple #[.int .i64 0, .int .i64 i]) ∧ New w w' := by
  by_cases h1 : n < 1
  · clear hn
    go_enter Try.func12, Try.ntmps12
    go_wp2
    go_ret2
    exact ⟨rfl, Chg.refl _ _⟩
  · have g1 : decide (n < 1) = false := by simp; omega
    have g2 : 4611686018427387904 < n := by omega
    clear hn
    go_enter Try.func12, Try.ntmps12
    go_wp2
    go_ret2
    exact ⟨rfl, Chg.refl _ _⟩

set_option maxRecDepth 100000 in
set_option maxHeartbeats 1000000 in
theorem below_bad (seed : Int) (s : ByteArray) (i n : Int) (hn : n < 1 ∨ 4611686018427387904 < n) (w : World) :
    Calls Try.prog 11 #[.int .u64 seed, .string s, .int .i64 i, .int .i64 n] w fun e w' => e = .returned (.tuple #[.int .i64 0, .int .i64 i]) ∧ New w w' := by
  by_cases h1 : n < 1
  · clear hn
    go_enter Try.func11, Try.ntmps11
    go_wp2
    have k1 : Blk (((w.alloc (.cells #[.int .i64 n] 3)).alloc (.cells #[.int .i64 0] 3)).alloc (.cells #[.int .i64 i] 3)) (w.heap.size + 1) 3 #[.int .i64 0] := by
      have := (Blk.new (w.alloc (.cells #[.int .i64 n] 3)) 3 #[.int .i64 0]).alloc (.cells #[.int .i64 i] 3)
      rwa [World.size_alloc] at this
    have k2 : Blk (((w.alloc (.cells #[.int .i64 n] 3)).alloc (.cells #[.int .i64 0] 3)).alloc (.cells #[.int .i64 i] 3)) (w.heap.size + 1 + 1) 3 #[.int .i64 i] := by
      have := Blk.new ((w.alloc (.cells #[.int .i64 n] 3)).alloc (.cells #[.int .i64 0] 3)) 3 #[.int .i64 i]
      rwa [World.size_alloc, World.size_alloc] at this
    exact bodyPost_ret (results_int2 rfl _ rfl rfl (k1.cell 0 rfl) (k2.cell 0 rfl)) rfl ⟨rfl, (((Chg.refl _ w).alloc _).alloc _).alloc _⟩
  · have g1 : decide (n < 1) = false := by simp; omega
    have g2 : 4611686018427387904 < n := by omega
    clear hn
    go_enter Try.func11, Try.ntmps11
    go_wp2
    have k1 : Blk (((w.alloc (.cells #[.int .i64 n] 3)).alloc (.cells #[.int .i64 0] 3)).alloc (.cells #[.int .i64 i] 3)) (w.heap.size + 1) 3 #[.int .i64 0] := by
      have := (Blk.new (w.alloc (.cells #[.int .i64 n] 3)) 3 #[.int .i64 0]).alloc (.cells #[.int .i64 i] 3)
      rwa [World.size_alloc] at this
    have k2 : Blk (((w.alloc (.cells #[.int .i64 n] 3)).alloc (.cells #[.int .i64 0] 3)).alloc (.cells #[.int .i64 i] 3)) (w.heap.size + 1 + 1) 3 #[.int .i64 i] := by
      have := Blk.new ((w.alloc (.cells #[.int .i64 n] 3)).alloc (.cells #[.int .i64 0] 3)) 3 #[.int .i64 i]
      rwa [World.size_alloc, World.size_alloc] at this
    exact bodyPost_ret (results_int2 rfl _ rfl rfl (k1.cell 0 rfl) (k2.cell 0 rfl)) rfl ⟨rfl, (((Chg.refl _ w).alloc _).alloc _).alloc _⟩
end Go.Proofs.Ytcjbndlhomokpaa
