/- The parts PureFeist, RandMix, RandBack, RandOrder, PureDig, PureDig2, MemRes, WideA, WideB, MemSet, MemMk, RandLives, WideC of the proof, in one text. -/
import Derived.WalkKit
import Derived.Deep.RegionWith
import Derived.Deep.QuietTactic
import Derived.BigQuiet
import Derived.Test.YtgofjkppeobjfaaB0
set_option linter.unusedSimpArgs false
set_option linter.unusedVariables false

namespace Go.Pure

/-! ### some place comes again -/
theorem pigeon : ∀ (M : Nat) (g : Nat → Nat), (∀ i, i ≤ M → g i < M) → ∃ i j, i < j ∧ j ≤ M ∧ g i = g j := by
  intro M
  induction M with
  | zero => intro g h; exact absurd (h 0 (Nat.le_refl _)) (by omega)
  | succ M ih =>
    intro g h
    by_cases hx : ∃ i, i ≤ M ∧ g i = g (M + 1)
    · obtain ⟨i, hi, he⟩ := hx
      exact ⟨i, M + 1, by omega, Nat.le_refl _, he⟩
    · have hne : ∀ i, i ≤ M → g i ≠ g (M + 1) := fun i hi he => hx ⟨i, hi, he⟩
      obtain ⟨i, j, h1, h2, h3⟩ := ih (fun i => if g i = M then g (M + 1) else g i) (fun i hi => by
        have a := h i (by omega)
        have b := h (M + 1) (Nat.le_refl _)
        have c := hne i hi
        show (if g i = M then g (M + 1) else g i) < M
        split <;> omega)
      refine ⟨i, j, h1, by omega, ?_⟩
      have ci := hne i (by omega)
      have cj := hne j (by omega)
      split at h3 <;> split at h3 <;> omega

/-- f, t times. -/
def iter (f : Nat → Nat) : Nat → Nat → Nat
  | 0, x => x
  | t + 1, x => iter f t (f x)
theorem iter_succ (f : Nat → Nat) (t x : Nat) : iter f (t + 1) x = f (iter f t x) := by
  induction t generalizing x with
  | zero => rfl
  | succ t ih => exact ih (f x)
theorem iter_add (f : Nat → Nat) (s t x : Nat) : iter f (s + t) x = iter f s (iter f t x) := by
  induction t generalizing x with
  | zero => rfl
  | succ t ih => exact ih (f x)
theorem iter_lt {f : Nat → Nat} {M : Nat} (hf : ∀ x, x < M → f x < M) (t : Nat) : ∀ x, x < M → iter f t x < M := by
  induction t with
  | zero => intro x h; exact h
  | succ t ih => intro x h; exact ih _ (hf x h)
/-- f and b undo each other below M. -/
structure Perm (f b : Nat → Nat) (M : Nat) : Prop where
  fl : ∀ x, x < M → f x < M
  bl : ∀ x, x < M → b x < M
  bf : ∀ x, x < M → b (f x) = x
  fb : ∀ x, x < M → f (b x) = x
theorem Perm.symm {f b : Nat → Nat} {M : Nat} (h : Perm f b M) : Perm b f M := ⟨h.bl, h.fl, h.fb, h.bf⟩
theorem Perm.undo {f b : Nat → Nat} {M : Nat} (h : Perm f b M) (t : Nat) : ∀ x, x < M → iter b t (iter f t x) = x := by
  induction t with
  | zero => intro x _; rfl
  | succ t ih =>
    intro x hx
    rw [iter_succ f]
    show iter b t (b (f (iter f t x))) = x
    rw [h.bf _ (iter_lt h.fl t x hx), ih x hx]
theorem Perm.again {f b : Nat → Nat} {M : Nat} (h : Perm f b M) {x : Nat} (hx : x < M) : ∃ t, iter f (t + 1) x = x := by
  obtain ⟨i, j, hij, _, he⟩ := pigeon M (fun i => iter f i x) (fun i _ => iter_lt h.fl i x hx)
  refine ⟨j - i - 1, ?_⟩
  have e : j = i + (j - i - 1 + 1) := by omega
  rw [e, iter_add] at he
  have h1 := h.undo i _ (iter_lt h.fl (j - i - 1 + 1) x hx)
  rw [← he, h.undo i x hx] at h1
  exact h1.symm
/-- The least number with a property. -/
theorem least {P : Nat → Prop} (h : ∃ t, P t) : ∃ t, P t ∧ ∀ s, s < t → ¬ P s := by
  obtain ⟨t, ht⟩ := h
  induction t using Nat.strongRecOn with
  | ind t ih =>
    by_cases hs : ∃ s, s < t ∧ P s
    · obtain ⟨s, h1, h2⟩ := hs
      exact ih s h1 h2
    · exact ⟨t, ht, fun s h1 h2 => hs ⟨s, h1, h2⟩⟩
open Classical in
/-- How many steps to the range below n. -/
noncomputable def dist (f : Nat → Nat) (n x : Nat) : Nat := if h : ∃ t, iter f t x < n then (least h).choose else 0
theorem dist_spec {f : Nat → Nat} {n x : Nat} (h : ∃ t, iter f t x < n) : iter f (dist f n x) x < n ∧ ∀ s, s < dist f n x → ¬ iter f s x < n := by
  unfold dist
  rw [dif_pos h]
  exact (least h).choose_spec
/-- One step nearer. -/
theorem dist_step {f : Nat → Nat} {n x : Nat} (h : ∃ t, iter f t x < n) (hx : ¬ x < n) : dist f n x = dist f n (f x) + 1 ∧ ∃ t, iter f t (f x) < n := by
  obtain ⟨h1, h2⟩ := dist_spec h
  have h0 : dist f n x ≠ 0 := fun e => by rw [e] at h1; exact hx h1
  obtain ⟨d, hd⟩ : ∃ d, dist f n x = d + 1 := ⟨dist f n x - 1, by omega⟩
  rw [hd] at h1 h2
  have hex : ∃ t, iter f t (f x) < n := ⟨d, h1⟩
  obtain ⟨h3, h4⟩ := dist_spec hex
  have ha : ¬ d < dist f n (f x) := fun hl => h4 d hl h1
  have hb : ¬ dist f n (f x) < d := fun hl => h2 (dist f n (f x) + 1) (by omega) h3
  exact ⟨by omega, hex⟩
/-- Where the walk from x (one step at least) first comes below n. -/
noncomputable def land (f : Nat → Nat) (n x : Nat) : Nat := iter f (dist f n (f x)) (f x)
theorem land_ex {f b : Nat → Nat} {M n x : Nat} (h : Perm f b M) (hn : n ≤ M) (hx : x < n) : ∃ t, iter f t (f x) < n := by
  obtain ⟨t, ht⟩ := h.again (x := x) (by omega)
  exact ⟨t, by have : iter f t (f x) = x := ht; omega⟩
theorem land_lt {f b : Nat → Nat} {M n x : Nat} (h : Perm f b M) (hn : n ≤ M) (hx : x < n) : land f n x < n := (dist_spec (land_ex h hn hx)).1
/-- The walk back leads back. -/
theorem land_back {f b : Nat → Nat} {M n x : Nat} (h : Perm f b M) (hn : n ≤ M) (hx : x < n) : land b n (land f n x) = x := by
  have hl := land_lt h hn hx
  obtain ⟨h1, h2⟩ := dist_spec (land_ex h hn hx)
  have hM : x < M := by omega
  -- the way forth has d + 1 steps
  have hway : land f n x = iter f (dist f n (f x) + 1) x := rfl
  have hbk : ∀ s, s ≤ dist f n (f x) + 1 → iter b s (land f n x) = iter f (dist f n (f x) + 1 - s) x := by
    intro s hs
    rw [hway]
    have e : dist f n (f x) + 1 = s + (dist f n (f x) + 1 - s) := by omega
    conv => lhs; rw [e, iter_add]
    exact h.undo s _ (iter_lt h.fl _ x hM)
  obtain ⟨h3, h4⟩ := dist_spec (land_ex h.symm hn hl)
  have hB : ∀ s, iter b s (b (land f n x)) = iter b (s + 1) (land f n x) := fun s => rfl
  have hd : iter b (dist f n (f x)) (b (land f n x)) = x := by
    rw [hB, hbk _ (Nat.le_refl _), Nat.sub_self]
    rfl
  have ha : ¬ dist f n (f x) < dist b n (b (land f n x)) := fun hlt => h4 _ hlt (by rw [hd]; exact hx)
  have hb : ¬ dist b n (b (land f n x)) < dist f n (f x) := fun hlt => by
    rw [hB, hbk _ (by omega)] at h3
    have e : dist f n (f x) + 1 - (dist b n (b (land f n x)) + 1) = (dist f n (f x) - dist b n (b (land f n x)) - 1) + 1 := by omega
    rw [e] at h3
    exact h2 _ (by omega) h3
  have e : dist b n (b (land f n x)) = dist f n (f x) := by omega
  unfold land at hd ⊢
  rw [show dist b n (b (iter f (dist f n (f x)) (f x))) = dist f n (f x) from e]
  exact hd

/-! ### the rounds -/
def fwd (p : Nat → Nat → Nat) : Nat → Nat × Nat → Nat × Nat
  | 0, x => x
  | i + 1, x => let y := fwd p i x; (y.2, y.1 ^^^ p i y.2)
def bwd (p : Nat → Nat → Nat) : Nat → Nat × Nat → Nat × Nat
  | 0, x => x
  | i + 1, x => bwd p i (x.2 ^^^ p i x.1, x.1)
theorem xor_xor (a b : Nat) : (a ^^^ b) ^^^ b = a := by rw [Nat.xor_assoc, Nat.xor_self, Nat.xor_zero]
theorem bwd_fwd (p : Nat → Nat → Nat) (i : Nat) : ∀ x, bwd p i (fwd p i x) = x := by
  induction i with
  | zero => intro x; rfl
  | succ i ih =>
    intro x
    show bwd p i ((fwd p i x).1 ^^^ p i (fwd p i x).2 ^^^ p i (fwd p i x).2, (fwd p i x).2) = x
    rw [xor_xor]
    exact ih x
theorem fwd_bwd (p : Nat → Nat → Nat) (i : Nat) : ∀ x, fwd p i (bwd p i x) = x := by
  induction i with
  | zero => intro x; rfl
  | succ i ih =>
    intro x
    show ((fwd p i (bwd p i (x.2 ^^^ p i x.1, x.1))).2, (fwd p i (bwd p i (x.2 ^^^ p i x.1, x.1))).1 ^^^ p i (fwd p i (bwd p i (x.2 ^^^ p i x.1, x.1))).2) = x
    rw [ih]
    simp only [xor_xor]
theorem fwd_lt {p : Nat → Nat → Nat} {h : Nat} (hp : ∀ i r, p i r < 2 ^ h) (i : Nat) : ∀ x : Nat × Nat, x.1 < 2 ^ h → x.2 < 2 ^ h → (fwd p i x).1 < 2 ^ h ∧ (fwd p i x).2 < 2 ^ h := by
  induction i with
  | zero => intro x h1 h2; exact ⟨h1, h2⟩
  | succ i ih => intro x h1 h2; have := ih x h1 h2; exact ⟨this.2, Nat.xor_lt_two_pow this.1 (hp _ _)⟩
theorem bwd_lt {p : Nat → Nat → Nat} {h : Nat} (hp : ∀ i r, p i r < 2 ^ h) (i : Nat) : ∀ x : Nat × Nat, x.1 < 2 ^ h → x.2 < 2 ^ h → (bwd p i x).1 < 2 ^ h ∧ (bwd p i x).2 < 2 ^ h := by
  induction i with
  | zero => intro x h1 h2; exact ⟨h1, h2⟩
  | succ i ih => intro x h1 h2; exact ih _ (Nat.xor_lt_two_pow h2 (hp _ _)) h1
def halves (h k : Nat) : Nat × Nat := (k / 2 ^ h, k % 2 ^ h)
def joinH (h : Nat) (x : Nat × Nat) : Nat := x.1 * 2 ^ h + x.2
def forthN (p : Nat → Nat → Nat) (h k : Nat) : Nat := joinH h (fwd p 4 (halves h k))
def backN (p : Nat → Nat → Nat) (h k : Nat) : Nat := joinH h (bwd p 4 (halves h k))
theorem joinH_halves (h k : Nat) : joinH h (halves h k) = k := by
  unfold joinH halves
  rw [Nat.mul_comm]
  exact Nat.div_add_mod k (2 ^ h)
theorem halves_joinH {h : Nat} {x : Nat × Nat} (hx : x.2 < 2 ^ h) : halves h (joinH h x) = x := by
  unfold joinH halves
  have h0 : 0 < 2 ^ h := Nat.pow_pos (by omega)
  rw [Nat.mul_comm, Nat.mul_add_div h0, Nat.div_eq_of_lt hx, Nat.mul_add_mod, Nat.mod_eq_of_lt hx]
  rfl
theorem joinH_lt {h : Nat} {x : Nat × Nat} (h1 : x.1 < 2 ^ h) (h2 : x.2 < 2 ^ h) : joinH h x < 2 ^ h * 2 ^ h := by
  unfold joinH
  have : x.1 * 2 ^ h + 2 ^ h ≤ 2 ^ h * 2 ^ h := by rw [← Nat.succ_mul]; exact Nat.mul_le_mul_right _ h1
  omega
theorem halves_lt {h k : Nat} (hk : k < 2 ^ h * 2 ^ h) : (halves h k).1 < 2 ^ h ∧ (halves h k).2 < 2 ^ h :=
  ⟨Nat.div_lt_of_lt_mul hk, Nat.mod_lt _ (Nat.pow_pos (by omega))⟩
theorem feistel {p : Nat → Nat → Nat} {h : Nat} (hp : ∀ i r, p i r < 2 ^ h) : Perm (forthN p h) (backN p h) (2 ^ h * 2 ^ h) where
  fl x hx := by have a := halves_lt hx; have b := fwd_lt hp 4 _ a.1 a.2; exact joinH_lt b.1 b.2
  bl x hx := by have a := halves_lt hx; have b := bwd_lt hp 4 _ a.1 a.2; exact joinH_lt b.1 b.2
  bf x hx := by
    have a := halves_lt hx
    have b := fwd_lt hp 4 _ a.1 a.2
    unfold backN forthN
    rw [halves_joinH b.2, bwd_fwd, joinH_halves]
  fb x hx := by
    have a := halves_lt hx
    have b := bwd_lt hp 4 _ a.1 a.2
    unfold backN forthN
    rw [halves_joinH b.2, fwd_bwd, joinH_halves]
end Go.Pure

namespace Go.Proofs.Ytgofjkppeobjfaa
open Go.RowKit Go.Shelf Go.Mem Go.Pure

def orderL : List UInt8 := [111, 114, 100, 101, 114]
/-- What a round mixes into a half. -/
def partN (seed : Int) (h : Nat) (i r : Nat) : Nat := (sumI orderL [wrap64 seed, (i : Int), (r : Int)]).toNat % 2 ^ h
theorem partN_lt (seed : Int) (h i r : Nat) : partN seed h i r < 2 ^ h := Nat.mod_lt _ (Nat.pow_pos (by omega))

set_option maxHeartbeats 1000000 in
theorem rounds_any (w : World) : Calls Try.prog 69 #[] w fun e w' => e = .returned (.agg #[.int .i64 0, .int .i64 1, .int .i64 2, .int .i64 3]) ∧ New w w' := by
  go_enter Try.func69, Try.ntmps69
  go_wp2
  refine bodyPost_ret (results_cell_row rfl _ _ w.heap.size _ _ (0, 0) _ rfl (heap_alloc_new _ _) Try.underlying107 rfl (by kernel_rfl)) rfl ?_
  exact ⟨rfl, (Chg.refl _ w).alloc _⟩

/-- h is the half for n numbers. -/
def IsHalf (n h : Nat) : Prop := 1 ≤ h ∧ n ≤ 4 ^ h ∧ ∀ j, 1 ≤ j → j < h → 4 ^ j < n
theorem IsHalf.le {n h : Nat} (H : IsHalf n h) (hn : n ≤ 1099511627776) : h ≤ 20 := by
  rcases Nat.lt_or_ge 20 h with h1 | h1
  · have := H.2.2 20 (by omega) h1
    omega
  · exact h1
theorem IsHalf.uniq {n h g : Nat} (H : IsHalf n h) (G : IsHalf n g) : h = g := by
  rcases Nat.lt_trichotomy h g with h1 | h1 | h1
  · have := G.2.2 h H.1 h1; have := H.2.1; omega
  · exact h1
  · have := H.2.2 g G.1 h1; have := G.2.1; omega
theorem four_pow (h : Nat) : 4 ^ h = 2 ^ (2 * h) := by rw [Nat.pow_mul]

set_option maxHeartbeats 1000000 in
theorem newMixer_any (seed : Int) (n : Nat) (hn : n ≤ 1099511627776) (w : World) : Calls Try.prog 47 #[.int .u64 seed, .int .i64 n] w fun e w' => ∃ h : Nat, e = .returned (.agg #[.int .u64 seed, .int .i64 h]) ∧ IsHalf n h ∧ New w w' := by
  go_enter Try.func47, Try.ntmps47
  go_wp2
  go_loopw [5] (fun i wr => ∃ h : Nat, 1 ≤ h ∧ h ≤ 20 ∧ i = .int .i64 h ∧ (∀ j, 1 ≤ j → j < h → 4 ^ j < n) ∧ wr = w.alloc (.cells #[.int .u64 0, .int .i64 0] 88)) (fun i _ => 21 - (intOf i).toNat)
  case atStart => exact ⟨1, by omega, by omega, rfl, fun j h1 h2 => by omega, rfl⟩
  case round =>
    obtain ⟨h, h1, h20, rfl, hj, rfl⟩ := hrel
    have HJ := Lib.hid hj
    clear hj
    obtain ⟨q, hq⟩ : ∃ q, 4 ^ h = q := ⟨_, rfl⟩
    have hq2 : 2 ^ (2 * h) = q := by rw [← four_pow, hq]
    have hqb : q ≤ 1099511627776 := by rw [← hq]; exact Nat.le_trans (Nat.pow_le_pow_right (by omega) h20) (by decide)
    have hwq : wrap64 (2 ^ (2 * h)) = (q : Int) := by
      have e : (2 : Int) ^ (2 * h) = ((2 ^ (2 * h) : Nat) : Int) := by simp
      rw [e, hq2]
      unfold wrap64
      omega
    have HQ := Lib.hid hq
    clear hq hq2
    by_cases hlt : q < n
    · have hlti : (q : Int) < (n : Int) := by omega
      have hh19 : h ≤ 19 := by
        rcases Nat.lt_or_ge 19 h with g | g
        · obtain rfl : h = 20 := by omega
          have := HQ.out
          omega
        · exact g
      go_wp2
      go_roundw
      case rel => exact ⟨h + 1, by omega, by omega, by go_num, fun j h1 h2 => by
        rcases Nat.lt_or_ge j h with g | g
        · exact HJ.out j h1 g
        · obtain rfl : j = h := by omega
          rw [HQ.out]; exact hlt, trivial⟩
      case measure => simp [intOf]; omega
    · have hlti : decide ((q : Int) < (n : Int)) = false := by simp; omega
      go_wp2
      refine bodyPost_ret (results_cell_row rfl _ _ w.heap.size _ _ (0, 0) _ rfl (heap_alloc_new _ _) Try.underlying88 rfl (by kernel_rfl)) rfl ?_
      exact ⟨h, rfl, ⟨h1, by rw [HQ.out]; omega, HJ.out⟩, (Chg.refl _ w).alloc _⟩

theorem wrapEq (x : Int) : IntKind.i64.wrap x = wrap64 x := by rw [IntKind.wrap_i64]; unfold wrap64; omega

theorem mask_eq {h : Nat} (hh : h ≤ 20) : IntKind.u64.wrap (IntKind.u64.wrap (2 ^ h) - 1) = ((2 ^ h - 1 : Nat) : Int) := by
  have h1 : 2 ^ h ≤ 1048576 := Nat.le_trans (Nat.pow_le_pow_right (by omega) hh) (by decide)
  have h0 : 0 < 2 ^ h := Nat.pow_pos (by omega)
  have e : (2 : Int) ^ h = ((2 ^ h : Nat) : Int) := by simp
  rw [e, IntKind.wrap_u64, IntKind.wrap_u64]
  omega
theorem part_eq {seed : Int} {i r S h : Nat} (hS : (S : Int) = sumI orderL [wrap64 seed, (i : Int), (r : Int)]) (hlt : S < 18446744073709551616) (hh : h ≤ 20) :
    wrap64 (bits .and .u64 (S : Int) (IntKind.u64.wrap (IntKind.u64.wrap (2 ^ h) - 1))) = (partN seed h i r : Int) := by
  have h1 : 2 ^ h ≤ 1048576 := Nat.le_trans (Nat.pow_le_pow_right (by omega) hh) (by decide)
  rw [mask_eq hh, u64_and_nat _ _ hlt (by omega), Nat.and_two_pow_sub_one_eq_mod]
  unfold partN
  rw [← hS, Int.toNat_natCast]
  have h0 : 0 < 2 ^ h := Nat.pow_pos (by omega)
  have := Nat.mod_lt S h0
  unfold wrap64
  omega

set_option maxHeartbeats 2000000 in
theorem part_any (seed : Int) (h : Nat) (hh : h ≤ 20) (i r : Nat) (w : World) : Calls Try.prog 70 #[.agg #[.int .u64 seed, .int .i64 h], .int .i64 i, .int .i64 r] w fun e w' => e = .returned (.int .i64 (partN seed h i r)) ∧ New w w' := by
  go_enter Try.func70, Try.ntmps70
  go_wp2_with fail
  have hsum := fun (W : World) (hr : Rd W (some ⟨w.heap.size + 1, 0, none⟩) 3 (is [IntKind.i64.wrap seed, (i : Int), (r : Int)])) (hW : New w W) (hb : W.cell? ⟨w.heap.size, 1, none⟩ = some (.int .i64 h)) =>
    (sum_any ⟨#[111, 114, 100, 101, 114]⟩ (by decide) _ 3 3 [IntKind.i64.wrap seed, (i : Int), (r : Int)] W hr (by omega)).mono (R' := fun e w' => ∃ S : Nat, e = .returned (.int .u64 (S : Int)) ∧ Hid ((S : Int) = sumI orderL [wrap64 seed, (i : Int), (r : Int)]) ∧ S < 18446744073709551616 ∧ Hid (New w w') ∧ w'.cell? ⟨w.heap.size, 1, none⟩ = some (.int .i64 h)) fun e w' ⟨h1, h2⟩ => by
      have hrg := sumI_range' orderL [wrap64 seed, (i : Int), (r : Int)]
      refine ⟨(sumI orderL [wrap64 seed, (i : Int), (r : Int)]).toNat, ?_, ?_, by omega, hW.new h2, h2.cell hb (fun h => h)⟩
      · rw [h1, wrapEq, Int.toNat_of_nonneg hrg.1]; rfl
      · exact Int.toNat_of_nonneg hrg.1
  have hb0 : Blk (w.alloc (.cells #[.int .u64 seed, .int .i64 h] 88)) w.heap.size 88 #[.int .u64 seed, .int .i64 h] := Blk.new _ _ _
  have hR := Rd.lit (w := w.alloc (.cells #[.int .u64 seed, .int .i64 h] 88)) (e := 3) (is [IntKind.i64.wrap seed, (i : Int), (r : Int)]) (n := 3) rfl
  rw [World.size_alloc] at hR
  have hcall := hsum ((w.alloc (.cells #[.int .u64 seed, .int .i64 h] 88)).alloc (.cells #[.int .i64 (IntKind.i64.wrap seed), .int .i64 (i : Int), .int .i64 (r : Int)] 3)).drew
    (hR.new ((Chg.refl _ _).drew)) ((((Chg.refl _ w).alloc _).alloc _).drew) (((hb0.alloc _).drew).cell 1 rfl)
  have HC := Lib.hid hcall
  clear hsum hb0 hR hcall
  go_region_with (first
    | (go_at_call 49; refine HC.out.mono ?_; rintro e w1 ⟨S, rfl, HS, hSlt, HN1, hc1⟩))
  all_goals
    go_wp2
    go_ret
    refine ⟨ret_int ?_, HN1.out⟩
    rw [← part_eq HS.out hSlt hh, wrapEq]
end Go.Proofs.Ytgofjkppeobjfaa

namespace Go.Proofs.Ytgofjkppeobjfaa
open Go.RowKit Go.Shelf Go.Mem Go.Pure

theorem i64_xor_nat (a b : Nat) (ha : a < 9223372036854775808) (hb : b < 9223372036854775808) : bits .xor .i64 (a : Int) (b : Int) = ((a ^^^ b : Nat) : Int) := by
  show IntKind.i64.wrap ((BitVec.ofInt 64 (a : Int) ^^^ BitVec.ofInt 64 (b : Int)).toNat : Int) = _
  rw [BitVec.ofInt_natCast, BitVec.ofInt_natCast, BitVec.toNat_xor, BitVec.toNat_ofNat, BitVec.toNat_ofNat, Nat.mod_eq_of_lt (by omega), Nat.mod_eq_of_lt (by omega), IntKind.wrap_i64]
  have := Nat.xor_lt_two_pow (n := 63) ha hb
  omega
theorem i64_and_nat (a b : Nat) (ha : a < 9223372036854775808) (hb : b < 9223372036854775808) : bits .and .i64 (a : Int) (b : Int) = ((a &&& b : Nat) : Int) := by
  show IntKind.i64.wrap ((BitVec.ofInt 64 (a : Int) &&& BitVec.ofInt 64 (b : Int)).toNat : Int) = _
  rw [BitVec.ofInt_natCast, BitVec.ofInt_natCast, BitVec.toNat_and, BitVec.toNat_ofNat, BitVec.toNat_ofNat, Nat.mod_eq_of_lt (by omega), Nat.mod_eq_of_lt (by omega), IntKind.wrap_i64]
  have := Nat.and_lt_two_pow (n := 63) a hb
  omega
theorem i64_or_nat (a b : Nat) (ha : a < 9223372036854775808) (hb : b < 9223372036854775808) : bits .or .i64 (a : Int) (b : Int) = ((a ||| b : Nat) : Int) := by
  show IntKind.i64.wrap ((BitVec.ofInt 64 (a : Int) ||| BitVec.ofInt 64 (b : Int)).toNat : Int) = _
  rw [BitVec.ofInt_natCast, BitVec.ofInt_natCast, BitVec.toNat_or, BitVec.toNat_ofNat, BitVec.toNat_ofNat, Nat.mod_eq_of_lt (by omega), Nat.mod_eq_of_lt (by omega), IntKind.wrap_i64]
  have := Nat.or_lt_two_pow (n := 63) ha hb
  omega
theorem side_le {h : Nat} (hh : h ≤ 20) : 2 ^ h ≤ 1048576 := Nat.le_trans (Nat.pow_le_pow_right (by omega) hh) (by decide)
theorem left_eq (h k : Nat) : (k : Int) / 2 ^ h = ((halves h k).1 : Int) := by
  have e : (2 : Int) ^ h = ((2 ^ h : Nat) : Int) := by simp
  rw [e]
  exact (Int.natCast_ediv k (2 ^ h)).symm
theorem right_eq {h k : Nat} (hh : h ≤ 20) (hk : k < 9223372036854775808) : bits .and .i64 (k : Int) (wrap64 (wrap64 (2 ^ h) - 1)) = ((halves h k).2 : Int) := by
  have h1 := side_le hh
  have h0 : 0 < 2 ^ h := Nat.pow_pos (by omega)
  have e : (2 : Int) ^ h = ((2 ^ h : Nat) : Int) := by simp
  have e2 : wrap64 (wrap64 (2 ^ h) - 1) = ((2 ^ h - 1 : Nat) : Int) := by
    rw [e]
    unfold wrap64
    omega
  rw [e2, i64_and_nat _ _ hk (by omega), Nat.and_two_pow_sub_one_eq_mod]
  rfl
theorem join_eq {h l r : Nat} (hh : h ≤ 20) (hl : l < 2 ^ h) (hr : r < 2 ^ h) : bits .or .i64 (wrap64 ((l : Int) * 2 ^ h)) (r : Int) = (joinH h (l, r) : Int) := by
  have h1 := side_le hh
  have e : (l : Int) * (2 : Int) ^ h = ((l * 2 ^ h : Nat) : Int) := by simp
  have hb : l * 2 ^ h ≤ 1048576 * 1048576 := Nat.mul_le_mul (by omega) h1
  have e2 : wrap64 ((l : Int) * 2 ^ h) = ((l * 2 ^ h : Nat) : Int) := by
    rw [e]
    unfold wrap64
    omega
  rw [e2, i64_or_nat _ _ (by omega) (by omega)]
  have := Nat.shiftLeft_add_eq_or_of_lt hr l
  rw [Nat.shiftLeft_eq] at this
  rw [← this]
  rfl

set_option maxHeartbeats 2000000 in
set_option maxRecDepth 100000 in
theorem back_any (seed : Int) (h k : Nat) (hh : h ≤ 20) (hk : k < 2 ^ h * 2 ^ h) (w : World) : Calls Try.prog 48 #[.agg #[.int .u64 seed, .int .i64 h], .int .i64 k] w fun e w' => e = .returned (.int .i64 (backN (partN seed h) h k)) ∧ New w w' := by
  have hk40 : k < 1099511627776 := Nat.lt_of_lt_of_le hk (by rw [← Nat.pow_add]; exact Nat.le_trans (Nat.pow_le_pow_right (by omega) (show h + h ≤ 40 by omega)) (by decide))
  have HK := Lib.hid hk
  clear hk
  go_enter Try.func48, Try.ntmps48
  go_wp2_with fail
  go_quiet (fail)
  rw [left_eq, right_eq hh (by omega)]
  have hlt := halves_lt HK.out
  obtain ⟨l0, r0, hx0⟩ : ∃ l r, halves h k = (l, r) := ⟨_, _, rfl⟩
  rw [hx0] at hlt ⊢
  have hl0 : l0 < 2 ^ h := hlt.1
  have hr0 : r0 < 2 ^ h := hlt.2
  have hside := side_le hh
  have hn1 : New w ((w.alloc (.cells #[.int .u64 seed, .int .i64 h] 88)).drewN nq) := ((Chg.refl _ w).alloc _).drewN _
  have hb1 : Blk ((w.alloc (.cells #[.int .u64 seed, .int .i64 h] 88)).drewN nq) w.heap.size 88 #[.int .u64 seed, .int .i64 h] := (Blk.new _ _ _).drewN _
  generalize ((w.alloc (.cells #[.int .u64 seed, .int .i64 h] 88)).drewN nq) = w1 at *
  have H1 := Lib.hid (And.intro hn1 (And.intro hb1 hx0))
  have HS := Lib.hid (And.intro hl0 (And.intro hr0 hside))
  clear hn1 hb1 hx0 hlt hl0 hr0 hside
  go_wp2_with fail
  refine (rounds_any w1).mono ?_
  rintro e w2 ⟨rfl, hn2⟩
  have hn3 : New w1 (w2.alloc (.cells #[.int .i64 0, .int .i64 1, .int .i64 2, .int .i64 3] 107)) := hn2.alloc _
  have hb3 : Blk (w2.alloc (.cells #[.int .i64 0, .int .i64 1, .int .i64 2, .int .i64 3] 107)) w2.heap.size 107 #[.int .i64 0, .int .i64 1, .int .i64 2, .int .i64 3] := Blk.new _ _ _
  have H3 := Lib.hid (And.intro (H1.out.1.new hn3) (And.intro (H1.out.2.1.chg hn3 (fun h => h)) (And.intro hb3 H1.out.2.2)))
  clear hn2 hn3 hb3 H1
  go_wp2_with fail
  generalize hw3 : (w2.alloc (.cells #[.int .i64 0, .int .i64 1, .int .i64 2, .int .i64 3] 107)) = w3 at *
  clear hw3
  generalize w2.heap.size = g at *
  go_loopw [5, 6, 8] (fun l r i wr => ∃ j l' r' : Nat, j ≤ 4 ∧ l = .int .i64 l' ∧ r = .int .i64 r' ∧ i = .int .i64 ((j : Int) - 1) ∧ bwd (partN seed h) j (l', r') = bwd (partN seed h) 4 (l0, r0) ∧ l' < 2 ^ h ∧ r' < 2 ^ h ∧ New w3 wr)
    (fun _ _ i _ => (intOf i + 1).toNat)
  case atStart => exact ⟨4, l0, r0, by omega, rfl, rfl, rfl, rfl, HS.out.1, HS.out.2.1, Chg.refl _ _⟩
  case round =>
    obtain ⟨j, l, r, hj, rfl, rfl, rfl, hbw, hl, hr, hnew⟩ := hrel
    have hside := HS.out.2.2
    have hb4 := H3.out.2.1.chg hnew (fun h => h)
    have hc0 := hb4.cell 0 rfl
    have hc1 := hb4.cell 1 rfl
    have hlb : l < 1048576 := Nat.lt_of_lt_of_le hl hside
    have hrb : r < 1048576 := Nat.lt_of_lt_of_le hr hside
    have HW := Lib.hid (And.intro hbw (And.intro hl (And.intro hr hnew)))
    rcases j with _ | j
    · clear hbw hl hr hside
      have hi : decide ((0 : Int) ≤ ((0 : Nat) : Int) - 1) = false := by simp
      go_wp2
      go_ret
      obtain ⟨hbw, hl, hr, hnew⟩ := HW.out
      refine ⟨ret_int ?_, H3.out.1.new hnew⟩
      rw [join_eq hh hl hr]
      unfold backN
      rw [H3.out.2.2.2, ← hbw]
      rfl
    · have hij : ((j + 1 : Nat) : Int) - 1 = (j : Int) := by omega
      rw [hij]
      have hlist := H3.out.2.2.1.chg hnew (fun h => h)
      have hcell : wr.cell? ⟨g, j, none⟩ = some (.int .i64 (j : Int)) := by
        rcases j with _ | _ | _ | _ | j
        · exact hlist.cell 0 rfl
        · exact hlist.cell 1 rfl
        · exact hlist.cell 2 rfl
        · exact hlist.cell 3 rfl
        · omega
      have hji : (j : Int) < 4 := by omega
      have hpart := part_any seed h hh j l wr.drew
      have hpl := partN_lt seed h j l
      clear hbw hl hr hside hnew hlist hij
      go_wp2_with fail
      go_region_with (first
        | (go_at_call 70; refine hpart.mono ?_; rintro e w5 ⟨rfl, HN5⟩))
      all_goals
        go_wp2
        go_roundw
        case rel =>
          obtain ⟨hbw, hl, hr, hnew⟩ := HW.out
          have hside := HS.out.2.2
          refine ⟨j, r ^^^ partN seed h j l, l, by omega, ?_, rfl, by go_num, hbw, Nat.xor_lt_two_pow hr hpl, hl, hnew.drew.new HN5⟩
          rw [i64_xor_nat r _ (by omega) (by omega)]
        case measure => simp [intOf]
end Go.Proofs.Ytgofjkppeobjfaa

namespace Go.Proofs.Ytgofjkppeobjfaa
open Go.RowKit Go.Shelf Go.Mem Go.Pure

/-- What is wrong with the arguments of Order. -/
def boundsI (n k : Int) : Int := if n < 1 ∨ 1099511627776 < n then 1 else if k < 0 ∨ n ≤ k then 5 else 0
theorem boundsI_ok {n k : Int} (h : boundsI n k = 0) : 1 ≤ n ∧ n ≤ 1099511627776 ∧ 0 ≤ k ∧ k < n := by
  unfold boundsI at h
  split at h
  · cases h
  · split at h
    · cases h
    · omega
theorem boundsI_of {n k : Int} (h1 : 1 ≤ n) (h2 : n ≤ 1099511627776) (h3 : 0 ≤ k) (h4 : k < n) : boundsI n k = 0 := by
  unfold boundsI
  rw [if_neg (by omega), if_neg (by omega)]

set_option maxHeartbeats 1000000 in
theorem bounds_any (n k : Int) (w : World) : Calls Try.prog 46 #[.int .i64 n, .int .i64 k] w fun e w' => e = .returned (.int .i64 (boundsI n k)) ∧ w = w' := by
  by_cases h1 : n < 1
  · go_enter Try.func46, Try.ntmps46
    go_wp2
    go_ret
    exact ⟨ret_int (by unfold boundsI; rw [if_pos (.inl h1)]), rfl⟩
  · have g1 : decide (n < 1) = false := by simp; omega
    by_cases h2 : 1099511627776 < n
    · go_enter Try.func46, Try.ntmps46
      go_wp2
      go_ret
      exact ⟨ret_int (by unfold boundsI; rw [if_pos (.inr h2)]), rfl⟩
    · have g2 : decide (1099511627776 < n) = false := by simp; omega
      by_cases h3 : k < 0
      · go_enter Try.func46, Try.ntmps46
        go_wp2
        go_ret
        exact ⟨ret_int (by unfold boundsI; rw [if_neg (by omega), if_pos (.inl h3)]), rfl⟩
      · have g3 : decide (k < 0) = false := by simp; omega
        by_cases h4 : n ≤ k
        · go_enter Try.func46, Try.ntmps46
          go_wp2
          go_ret
          exact ⟨ret_int (by unfold boundsI; rw [if_neg (by omega), if_pos (.inr h4)]), rfl⟩
        · have g4 : decide (n ≤ k) = false := by simp; omega
          go_enter Try.func46, Try.ntmps46
          go_wp2
          go_ret
          exact ⟨ret_int (by unfold boundsI; rw [if_neg (by omega), if_neg (by omega)]), rfl⟩

/-- The half for n numbers (20 where there is none). -/
theorem half_ex (n : Nat) (hn : n ≤ 1099511627776) : ∃ h, IsHalf n h := by
  obtain ⟨t, ht, hmin⟩ := least (P := fun t => n ≤ 4 ^ (t + 1)) ⟨19, by show n ≤ 4 ^ 20; omega⟩
  refine ⟨t + 1, by omega, ht, fun j h1 h2 => ?_⟩
  have := hmin (j - 1) (by omega)
  rw [show j - 1 + 1 = j by omega] at this
  omega
open Classical in
noncomputable def halfN (n : Nat) : Nat := if h : ∃ g, IsHalf n g then h.choose else 20
theorem halfN_eq {n h : Nat} (H : IsHalf n h) : halfN n = h := by
  unfold halfN
  rw [dif_pos ⟨h, H⟩]
  exact IsHalf.uniq (Exists.choose_spec _) H
theorem sq_pow (h : Nat) : 2 ^ h * 2 ^ h = 4 ^ h := by rw [four_pow, ← Nat.pow_add]; congr 1; omega
/-- Where the k-th of n is. -/
noncomputable def orderN (seed : Int) (n k : Nat) : Nat := land (forthN (partN seed (halfN n)) (halfN n)) n k
noncomputable def placeN (seed : Int) (n k : Nat) : Nat := land (backN (partN seed (halfN n)) (halfN n)) n k
theorem permN (seed : Int) {n h : Nat} (H : IsHalf n h) : Perm (forthN (partN seed h) h) (backN (partN seed h) h) (4 ^ h) := by
  have := feistel (p := partN seed h) (h := h) (fun i r => partN_lt seed h i r)
  rwa [sq_pow] at this
theorem order_lt (seed : Int) {n k : Nat} (hn : n ≤ 1099511627776) (hk : k < n) : orderN seed n k < n := by
  obtain ⟨h, H⟩ := half_ex n hn
  unfold orderN
  rw [halfN_eq H]
  exact land_lt (permN seed H) H.2.1 hk
theorem place_lt (seed : Int) {n k : Nat} (hn : n ≤ 1099511627776) (hk : k < n) : placeN seed n k < n := by
  obtain ⟨h, H⟩ := half_ex n hn
  unfold placeN
  rw [halfN_eq H]
  exact land_lt (permN seed H).symm H.2.1 hk
theorem place_order (seed : Int) {n k : Nat} (hn : n ≤ 1099511627776) (hk : k < n) : placeN seed n (orderN seed n k) = k := by
  obtain ⟨h, H⟩ := half_ex n hn
  unfold placeN orderN
  rw [halfN_eq H]
  exact land_back (permN seed H) H.2.1 hk
theorem order_place (seed : Int) {n k : Nat} (hn : n ≤ 1099511627776) (hk : k < n) : orderN seed n (placeN seed n k) = k := by
  obtain ⟨h, H⟩ := half_ex n hn
  unfold placeN orderN
  rw [halfN_eq H]
  exact land_back (permN seed H).symm H.2.1 hk

/-- The walk of land: x has been reached, dist is what is left. -/
theorem land_walk {f : Nat → Nat} {n k x : Nat} (h : ∃ t, iter f t x < n) (e : land f n k = iter f (dist f n x) x) (hx : ¬ x < n) : (∃ t, iter f t (f x) < n) ∧ land f n k = iter f (dist f n (f x)) (f x) ∧ dist f n (f x) < dist f n x := by
  obtain ⟨h1, h2⟩ := dist_step h hx
  refine ⟨h2, ?_, by omega⟩
  rw [e, h1]
  rfl
theorem dist_zero {f : Nat → Nat} {n x : Nat} (hx : x < n) : dist f n x = 0 := by
  have h : ∃ t, iter f t x < n := ⟨0, hx⟩
  obtain ⟨_, h2⟩ := dist_spec h
  rcases Nat.eq_zero_or_pos (dist f n x) with h0 | h0
  · exact h0
  · exact absurd hx (h2 0 h0)

set_option maxHeartbeats 2000000 in
set_option maxRecDepth 100000 in
theorem place_any (seed : Int) (n k : Int) (w : World) (hn : -9223372036854775808 ≤ n ∧ n ≤ 9223372036854775807) : Calls Try.prog 29 #[.int .u64 seed, .int .i64 n, .int .i64 k] w fun e w' =>
    e = .returned (.tuple #[.int .i64 (if boundsI n k = 0 then (placeN seed n.toNat k.toNat : Int) else 0), .int .i64 (boundsI n k)]) ∧ New w w' := by
  by_cases hb : boundsI n k = 0
  · obtain ⟨h1, h2, h3, h4⟩ := boundsI_ok hb
    obtain ⟨N, rfl⟩ : ∃ N : Nat, n = (N : Int) := ⟨n.toNat, by omega⟩
    obtain ⟨K, rfl⟩ : ∃ K : Nat, k = (K : Int) := ⟨k.toNat, by omega⟩
    have hN : N ≤ 1099511627776 := by omega
    have hK : K < N := by omega
    rw [if_pos hb, hb, Int.toNat_natCast, Int.toNat_natCast]
    have HB := Lib.hid hb
    clear hb h1 h2 h3 h4 hn
    obtain ⟨h, hH⟩ := half_ex N hN
    have hh := hH.le hN
    have hon : placeN seed N K = land (backN (partN seed h) h) N K := by unfold placeN; rw [halfN_eq hH]
    rw [hon]
    clear hon
    have hperm := (permN seed hH).symm
    obtain ⟨f, hf⟩ : ∃ f, backN (partN seed h) h = f := ⟨_, rfl⟩
    have hfa := fun x (hx : x < 4 ^ h) W => back_any seed h x hh (by rw [sq_pow]; exact hx) W
    rw [hf] at hfa hperm ⊢
    have HF := Lib.hid (And.intro hperm (And.intro hfa (And.intro hH hf)))
    have hN4 := hH.2.1
    obtain ⟨M, hM⟩ : ∃ M, 4 ^ h = M := ⟨_, rfl⟩
    have hMb : M ≤ 1099511627776 := by rw [← hM]; exact Nat.le_trans (Nat.pow_le_pow_right (by omega) hh) (by decide)
    rw [hM] at hN4 HF
    clear hM hf hperm hfa hH
    go_enter Try.func29, Try.ntmps29
    go_wp2_with fail
    refine (bounds_any (N : Int) (K : Int) w).mono ?_
    rintro e w1 ⟨rfl, rfl⟩
    rw [HB.out]
    go_wp2_with fail
    refine (newMixer_any seed N hN w).mono ?_
    rintro e w2 ⟨h', rfl, hH', hn2⟩
    obtain rfl : h' = h := hH'.uniq HF.out.2.2.1
    have hn3 : New w (w2.alloc (.cells #[.int .u64 seed, .int .i64 h'] 88)) := hn2.alloc _
    have hb3 : Blk (w2.alloc (.cells #[.int .u64 seed, .int .i64 h'] 88)) w2.heap.size 88 #[.int .u64 seed, .int .i64 h'] := Blk.new _ _ _
    have H3 := Lib.hid (And.intro hn3 hb3)
    clear hn2 hn3 hb3 hH'
    go_wp2_with fail
    generalize hw3 : (w2.alloc (.cells #[.int .u64 seed, .int .i64 h'] 88)) = w3 at *
    clear hw3
    generalize w2.heap.size = g at *
    refine (HF.out.2.1 K (by omega) w3).mono ?_
    rintro e w4 ⟨rfl, hn4⟩
    have H4 := Lib.hid (And.intro (H3.out.1.new hn4) (H3.out.2.chg hn4 (fun h => h)))
    clear hn4
    go_wp2_with fail
    go_loopw [2] (fun x wr => ∃ y : Nat, x = .int .i64 y ∧ y < M ∧ (∃ t, iter f t y < N) ∧ land f N K = iter f (dist f N y) y ∧ New w4 wr) (fun x _ => dist f N (intOf x).toNat)
    case atStart => exact ⟨f K, rfl, HF.out.1.fl K (by omega), land_ex HF.out.1 hN4 hK, rfl, Chg.refl _ _⟩
    case round =>
      obtain ⟨y, rfl, hy, hex, hland, hnew⟩ := hrel
      have HX := Lib.hid (And.intro hex (And.intro hland hnew))
      have hb5 := H4.out.2.chg hnew (fun h => h)
      have hc0 := hb5.cell 0 rfl
      have hc1 := hb5.cell 1 rfl
      clear hex hland hnew
      by_cases hlt : y < N
      · have hge : decide ((N : Int) ≤ (y : Int)) = false := by simp; omega
        go_wp2
        go_ret2
        obtain ⟨hex, hland, hnew⟩ := HX.out
        rw [hland, dist_zero hlt]
        exact ⟨rfl, H4.out.1.new hnew⟩
      · have hge : (N : Int) ≤ (y : Int) := by omega
        go_wp2_with fail
        refine (HF.out.2.1 y hy wr).mono ?_
        rintro e w6 ⟨rfl, hn6⟩
        have HN6 := Lib.hid hn6
        clear hn6
        go_wp2
        go_roundw
        case rel =>
          obtain ⟨hex, hland, hnew⟩ := HX.out
          obtain ⟨h1, h2, h3⟩ := land_walk hex hland hlt
          exact ⟨f y, rfl, HF.out.1.fl y hy, h1, h2, hnew.new HN6.out⟩
        case measure =>
          obtain ⟨hex, hland, hnew⟩ := HX.out
          obtain ⟨h1, h2, h3⟩ := land_walk hex hland hlt
          simpa [intOf] using h3
  · have HB := Lib.hid hb
    have hne : (boundsI n k == 0) = false := by simpa using hb
    have hne' : (boundsI n k != 0) = true := by simpa using hb
    rw [if_neg hb]
    clear hb
    obtain ⟨B, hB⟩ : ∃ B, boundsI n k = B := ⟨_, rfl⟩
    rw [hB] at hne hne' ⊢
    have HBB := Lib.hid hB
    clear hB
    go_enter Try.func29, Try.ntmps29
    go_wp2_with fail
    refine (bounds_any n k w).mono ?_
    rintro e w1 ⟨rfl, rfl⟩
    rw [HBB.out]
    go_wp2
    go_ret2
    exact ⟨rfl, Chg.refl _ _⟩
end Go.Proofs.Ytgofjkppeobjfaa

namespace Go.Dig
set_option linter.unusedVariables false

/-- The value of digits in base B, the least significant one first. -/
def val (B : Nat) : List Nat → Nat
  | [] => 0
  | d :: l => d + B * val B l
@[simp] theorem val_nil (B : Nat) : val B [] = 0 := rfl
theorem val_cons (B d : Nat) (l : List Nat) : val B (d :: l) = d + B * val B l := rfl
theorem val_append (B : Nat) (a b : List Nat) : val B (a ++ b) = val B a + B ^ a.length * val B b := by
  induction a with
  | nil => simp
  | cons x a ih =>
    rw [List.cons_append, val_cons, ih, val_cons, List.length_cons, Nat.pow_succ, Nat.mul_add, ← Nat.mul_assoc, Nat.mul_comm (B ^ a.length) B]
    omega
theorem val_snoc (B : Nat) (a : List Nat) (d : Nat) : val B (a ++ [d]) = val B a + B ^ a.length * d := by
  rw [val_append, val_cons, val_nil, Nat.mul_zero, Nat.add_zero]
theorem val_take {B : Nat} {l : List Nat} {k d : Nat} (h : l[k]? = some d) : val B (l.take (k + 1)) = val B (l.take k) + B ^ k * d := by
  have hk := (List.getElem?_eq_some_iff.1 h).1
  rw [List.take_add_one, h, Option.toList_some, val_snoc, List.length_take, Nat.min_eq_left (by omega)]
theorem val_drop {B : Nat} {l : List Nat} {k d : Nat} (h : l[k]? = some d) : val B (l.drop k) = d + B * val B (l.drop (k + 1)) := by
  obtain ⟨hk, rfl⟩ := List.getElem?_eq_some_iff.1 h
  rw [List.drop_eq_getElem_cons hk, val_cons]
theorem val_split (B : Nat) (l : List Nat) (k : Nat) (hk : k ≤ l.length) : val B l = val B (l.take k) + B ^ k * val B (l.drop k) := by
  have := val_append B (l.take k) (l.drop k)
  rw [List.take_append_drop, List.length_take, Nat.min_eq_left hk] at this
  exact this
/-- Every digit is less than the base. -/
def Digs (B : Nat) (l : List Nat) : Prop := ∀ d ∈ l, d < B
theorem Digs.nil (B : Nat) : Digs B [] := fun d h => by simp at h
theorem Digs.cons {B d : Nat} {l : List Nat} (h : d < B) (hl : Digs B l) : Digs B (d :: l) := fun x hx => by
  rcases List.mem_cons.1 hx with rfl | hx
  · exact h
  · exact hl x hx
theorem Digs.snoc {B d : Nat} {l : List Nat} (hl : Digs B l) (h : d < B) : Digs B (l ++ [d]) := fun x hx => by
  rcases List.mem_append.1 hx with hx | hx
  · exact hl x hx
  · simp at hx; omega
theorem Digs.app {B : Nat} {a b : List Nat} (ha : Digs B a) (hb : Digs B b) : Digs B (a ++ b) := fun x hx => (List.mem_append.1 hx).elim (ha x) (hb x)
theorem Digs.take {B : Nat} {l : List Nat} (h : Digs B l) (k : Nat) : Digs B (l.take k) := fun x hx => h x (List.mem_of_mem_take hx)
theorem Digs.drop {B : Nat} {l : List Nat} (h : Digs B l) (k : Nat) : Digs B (l.drop k) := fun x hx => h x (List.mem_of_mem_drop hx)
theorem Digs.at_ {B : Nat} {l : List Nat} (h : Digs B l) {k d : Nat} (hd : l[k]? = some d) : d < B := h d (List.mem_of_getElem? hd)
theorem Digs.set_ {B : Nat} {l : List Nat} (h : Digs B l) {k d : Nat} (hd : d < B) : Digs B (l.set k d) := fun x hx => by
  rcases List.mem_or_eq_of_mem_set hx with h1 | h1
  · exact h x h1
  · omega
theorem Digs.zeros {B : Nat} (hB : 1 ≤ B) (n : Nat) : Digs B (List.replicate n 0) := fun x hx => by
  have := (List.mem_replicate.1 hx).2; omega
theorem val_zeros (B n : Nat) : val B (List.replicate n 0) = 0 := by
  induction n with
  | zero => rfl
  | succ n ih => rw [List.replicate_succ, val_cons, ih]; simp
theorem val_lt {B : Nat} {l : List Nat} (h : Digs B l) : val B l < B ^ l.length := by
  induction l with
  | nil => simp
  | cons x l ih =>
    have h1 := ih (fun d hd => h d (by simp [hd]))
    have h2 := h x (by simp)
    rw [val_cons, List.length_cons, Nat.pow_succ]
    have h3 : B * (val B l + 1) ≤ B * B ^ l.length := Nat.mul_le_mul_left _ h1
    rw [Nat.mul_add, Nat.mul_comm B (B ^ l.length)] at h3
    omega
/-- No zero at the end. -/
def Trim (l : List Nat) : Prop := l.getLast? ≠ some 0
theorem Trim.nil : Trim [] := by simp [Trim]
theorem Trim.snoc {l : List Nat} {d : Nat} (h : d ≠ 0) : Trim (l ++ [d]) := by simp [Trim, h]
theorem Trim.drop {l : List Nat} (h : Trim l) (k : Nat) : Trim (l.drop k) := by
  unfold Trim at *
  rw [List.getLast?_drop]
  split
  · simp
  · exact h
/-- The list without the zeros at its end. -/
def trim : List Nat → List Nat
  | [] => []
  | d :: l => match trim l with
    | [] => if d = 0 then [] else [d]
    | x :: t => d :: x :: t
theorem trim_cons (d : Nat) (l : List Nat) : trim (d :: l) = if d = 0 ∧ trim l = [] then [] else d :: trim l := by
  rw [trim]
  split
  · rename_i h
    by_cases hd : d = 0 <;> simp [h, hd]
  · rename_i h
    simp [h]
theorem trim_snoc_zero (l : List Nat) : trim (l ++ [0]) = trim l := by
  induction l with
  | nil => rfl
  | cons x l ih => rw [List.cons_append, trim_cons, trim_cons, ih]
theorem trim_snoc_pos (l : List Nat) {d : Nat} (h : d ≠ 0) : trim (l ++ [d]) = l ++ [d] := by
  induction l with
  | nil => simp [trim, h]
  | cons x l ih => rw [List.cons_append, trim_cons, ih]; simp
theorem trim_of {l : List Nat} (h : Trim l) : trim l = l := by
  rcases List.eq_nil_or_concat l with rfl | ⟨a, d, rfl⟩
  · rfl
  · rw [List.concat_eq_append] at h ⊢
    exact trim_snoc_pos a (fun e => h (by simp [e]))
theorem trim_Trim (l : List Nat) : Trim (trim l) := by
  induction l with
  | nil => exact Trim.nil
  | cons x l ih =>
    rw [trim_cons]
    split
    · exact Trim.nil
    · rename_i h
      unfold Trim at *
      cases hl : trim l with
      | nil => rw [hl] at h; simp at h ⊢; exact h
      | cons y t => rw [hl] at ih; simpa using ih
theorem val_trim (B : Nat) (l : List Nat) : val B (trim l) = val B l := by
  induction l with
  | nil => rfl
  | cons x l ih =>
    rw [trim_cons, val_cons]
    split
    · rename_i h
      rw [h.2] at ih
      rw [← ih, h.1]; simp
    · rw [val_cons, ih]
theorem trim_digs {B : Nat} {l : List Nat} (h : Digs B l) : Digs B (trim l) := by
  induction l with
  | nil => exact Digs.nil B
  | cons x l ih =>
    rw [trim_cons]
    split
    · exact Digs.nil B
    · exact Digs.cons (h x (by simp)) (ih (fun d hd => h d (by simp [hd])))
theorem trim_take (l : List Nat) : trim l = l.take (trim l).length := by
  induction l with
  | nil => rfl
  | cons x l ih =>
    rw [trim_cons]
    split
    · simp
    · rw [List.length_cons, List.take_succ_cons, ← ih]
theorem trim_len (l : List Nat) : (trim l).length ≤ l.length := by
  have := congrArg List.length (trim_take l)
  rw [List.length_take] at this
  omega
/-- One step of trimming, by the last digit of the first k. -/
theorem trim_step {l : List Nat} {k d : Nat} (h : l[k]? = some d) (hd : d = 0) : trim (l.take (k + 1)) = trim (l.take k) := by
  rw [List.take_add_one, h, Option.toList_some, hd, trim_snoc_zero]
theorem trim_stop {l : List Nat} {k d : Nat} (h : l[k]? = some d) (hd : d ≠ 0) : trim (l.take (k + 1)) = l.take (k + 1) := by
  rw [List.take_add_one, h, Option.toList_some, trim_snoc_pos _ hd]

/-- l is THE list of digits of n. -/
structure Num (B : Nat) (l : List Nat) (n : Nat) : Prop where
  digs : Digs B l
  trim : Trim l
  val : val B l = n
theorem Num.zero (B : Nat) : Num B [] 0 := ⟨Digs.nil B, Trim.nil, rfl⟩
theorem Num.of_trim {B : Nat} {l : List Nat} (h : Digs B l) : Num B (Dig.trim l) (Dig.val B l) := ⟨trim_digs h, trim_Trim l, val_trim B l⟩
theorem val_pos {B : Nat} {l : List Nat} (hB : 1 ≤ B) (h : Trim l) (hn : l ≠ []) : B ^ (l.length - 1) ≤ val B l := by
  rcases List.eq_nil_or_concat l with rfl | ⟨a, d, rfl⟩
  · exact absurd rfl hn
  · rw [List.concat_eq_append] at h ⊢
    have hd : d ≠ 0 := fun e => h (by simp [e])
    rw [val_snoc, List.length_append, List.length_singleton, Nat.add_sub_cancel]
    exact Nat.le_trans (Nat.le_mul_of_pos_right _ (by omega)) (Nat.le_add_left _ _)
theorem Num.nil_iff {B : Nat} {l : List Nat} {n : Nat} (hB : 1 ≤ B) (h : Num B l n) : l = [] ↔ n = 0 := by
  constructor
  · intro e; subst e; exact h.val.symm
  · intro e
    rcases Decidable.em (l = []) with h1 | h1
    · exact h1
    · have h2 := val_pos hB h.trim h1
      have h3 : 0 < B ^ (l.length - 1) := Nat.pow_pos hB
      rw [h.val] at h2; omega
theorem Num.len_lt {B : Nat} (hB : 2 ≤ B) {a b : List Nat} {m n : Nat} (ha : Num B a m) (hb : Num B b n) (h : a.length < b.length) : m < n := by
  have h1 := val_lt ha.digs
  have h2 := val_pos (B := B) (by omega) hb.trim (fun e => by simp [e] at h)
  rw [ha.val] at h1
  rw [hb.val] at h2
  exact Nat.lt_of_lt_of_le h1 (Nat.le_trans (Nat.pow_le_pow_right (by omega) (by omega)) h2)
/-- A number below B^k has at most k digits, and the other way round. -/
theorem Num.len_le {B : Nat} (hB : 2 ≤ B) {a : List Nat} {m k : Nat} (ha : Num B a m) (h : m < B ^ k) : a.length ≤ k := by
  rcases Decidable.em (a = []) with h1 | h1
  · simp [h1]
  · have h2 := val_pos (B := B) (by omega) ha.trim h1
    rw [ha.val] at h2
    rcases Nat.lt_or_ge k a.length with h3 | h3
    · have := Nat.pow_le_pow_right (n := B) (by omega) (show k ≤ a.length - 1 by omega)
      omega
    · exact h3
theorem Num.lt {B : Nat} {a : List Nat} {m k : Nat} (hB : 1 ≤ B) (ha : Num B a m) (h : a.length ≤ k) : m < B ^ k := by
  have := val_lt ha.digs
  rw [ha.val] at this
  exact Nat.lt_of_lt_of_le this (Nat.pow_le_pow_right hB h)
/-- The first difference from the top decides. -/
theorem val_lt_of {B : Nat} {a b : List Nat} (ha : Digs B a) (hl : a.length = b.length) {k x y : Nat} (hx : a[k]? = some x) (hy : b[k]? = some y) (hd : a.drop (k + 1) = b.drop (k + 1)) (h : x < y) : val B a < val B b := by
  have hk := (List.getElem?_eq_some_iff.1 hx).1
  rw [val_split B a (k + 1) (by omega), val_split B b (k + 1) (by omega), hd, val_take hx, val_take hy]
  have h1 := val_lt (ha.take k)
  rw [List.length_take, Nat.min_eq_left (by omega)] at h1
  have h2 : B ^ k * (x + 1) ≤ B ^ k * y := Nat.mul_le_mul_left _ h
  rw [Nat.mul_add] at h2
  omega
theorem drop_step {a b : List Nat} {k x : Nat} (hx : a[k]? = some x) (hy : b[k]? = some x) (hd : a.drop (k + 1) = b.drop (k + 1)) : a.drop k = b.drop k := by
  obtain ⟨h1, e1⟩ := List.getElem?_eq_some_iff.1 hx
  obtain ⟨h2, e2⟩ := List.getElem?_eq_some_iff.1 hy
  rw [List.drop_eq_getElem_cons h1, List.drop_eq_getElem_cons h2, e1, e2, hd]
theorem Num.uniq {B : Nat} (hB : 2 ≤ B) : ∀ {a b : List Nat} {n : Nat}, Num B a n → Num B b n → a = b := by
  intro a b n ha hb
  have hl : a.length = b.length := by
    rcases Nat.lt_trichotomy a.length b.length with h | h | h
    · have := Num.len_lt hB ha hb h; omega
    · exact h
    · have := Num.len_lt hB hb ha h; omega
  have hv : Dig.val B a = Dig.val B b := by rw [ha.val, hb.val]
  have key : ∀ k, k ≤ a.length → a.drop (a.length - k) = b.drop (a.length - k) := by
    intro k
    induction k with
    | zero => intro _; rw [Nat.sub_zero, List.drop_of_length_le (Nat.le_refl _), List.drop_of_length_le (by omega)]
    | succ k ih =>
      intro hk
      have h1 := ih (by omega)
      rw [show a.length - k = a.length - (k + 1) + 1 by omega] at h1
      have hx := List.getElem?_eq_getElem (l := a) (i := a.length - (k + 1)) (by omega)
      have hy := List.getElem?_eq_getElem (l := b) (i := a.length - (k + 1)) (by omega)
      rcases Nat.lt_trichotomy (a[a.length - (k + 1)]'(by omega)) (b[a.length - (k + 1)]'(by omega)) with h | h | h
      · have := val_lt_of ha.digs hl hx hy h1 h; omega
      · rw [← h] at hy; exact drop_step hx hy h1
      · have := val_lt_of hb.digs hl.symm hy hx h1.symm h; omega
  have := key a.length (Nat.le_refl _)
  simpa using this

/-- The cells of numbers. -/
def nv (k : IntKind) (l : List Nat) : List Value := l.map (fun n : Nat => Value.int k n)
@[simp] theorem nv_length (k : IntKind) (l : List Nat) : (nv k l).length = l.length := by simp [nv]
theorem nv_append (k : IntKind) (a b : List Nat) : nv k (a ++ b) = nv k a ++ nv k b := by simp [nv]
theorem nv_at {k : IntKind} {l : List Nat} {i : Nat} {u : Value} (h : (nv k l)[i]? = some u) : ∃ z, l[i]? = some z ∧ u = .int k (z : Nat) := by
  simp only [nv, List.getElem?_map, Option.map_eq_some_iff] at h
  obtain ⟨c, h1, h2⟩ := h
  exact ⟨c, h1, h2.symm⟩
theorem nv_one {k : IntKind} (l : List Nat) : ∀ u ∈ nv k l, u.oneCell' = true := by
  intro u hu
  obtain ⟨_, _, rfl⟩ := List.mem_map.1 hu
  rfl
theorem nv_take (k : IntKind) (l : List Nat) (i : Nat) : (nv k l).take i = nv k (l.take i) := by simp [nv, List.map_take]
theorem nv_drop (k : IntKind) (l : List Nat) (i : Nat) : (nv k l).drop i = nv k (l.drop i) := by simp [nv, List.map_drop]
theorem nv_set (k : IntKind) (l : List Nat) (i d : Nat) : (nv k l).set i (.int k (d : Nat)) = nv k (l.set i d) := by simp [nv, List.map_set]
theorem nv_is (l : List Nat) : nv .i64 l = Mem.is (l.map (fun n : Nat => (n : Int))) := by simp [nv, Mem.is, List.map_map, Function.comp_def]
end Go.Dig

namespace Go.Dig
set_option linter.unusedVariables false

/-- A digit, or 0 behind the last one. -/
def dg (l : List Nat) (i : Nat) : Nat := l[i]?.getD 0
theorem dg_some {l : List Nat} {i d : Nat} (h : l[i]? = some d) : dg l i = d := by simp [dg, h]
theorem dg_none {l : List Nat} {i : Nat} (h : l.length ≤ i) : dg l i = 0 := by simp [dg, List.getElem?_eq_none h]
theorem dg_lt {B : Nat} {l : List Nat} (h : Digs B l) (hB : 1 ≤ B) (i : Nat) : dg l i < B := by
  rcases Nat.lt_or_ge i l.length with h1 | h1
  · rw [dg_some (List.getElem?_eq_getElem h1)]; exact h _ (List.getElem_mem h1)
  · rw [dg_none h1]; omega
theorem val_take_dg (B : Nat) (l : List Nat) (k : Nat) : val B (l.take (k + 1)) = val B (l.take k) + B ^ k * dg l k := by
  rcases Nat.lt_or_ge k l.length with h | h
  · rw [val_take (List.getElem?_eq_getElem h), dg_some (List.getElem?_eq_getElem h)]
  · rw [dg_none h, List.take_of_length_le h, List.take_of_length_le (by omega)]; simp
theorem val_drop_dg (B : Nat) (l : List Nat) (k : Nat) : val B (l.drop k) = dg l k + B * val B (l.drop (k + 1)) := by
  rcases Nat.lt_or_ge k l.length with h | h
  · rw [val_drop (List.getElem?_eq_getElem h), dg_some (List.getElem?_eq_getElem h)]
  · rw [dg_none h, List.drop_of_length_le h, List.drop_of_length_le (by omega)]; simp
theorem val_set {B : Nat} {l : List Nat} {p d : Nat} (h : l[p]? = some d) (d' : Nat) : val B (l.set p d') + B ^ p * d = val B l + B ^ p * d' := by
  induction l generalizing p with
  | nil => simp at h
  | cons x l ih =>
    cases p with
    | zero =>
      simp only [List.getElem?_cons_zero, Option.some.injEq] at h
      subst h
      rw [List.set_cons_zero, val_cons, val_cons, Nat.pow_zero, Nat.one_mul, Nat.one_mul]
      omega
    | succ p =>
      simp only [List.getElem?_cons_succ] at h
      have := ih h
      rw [List.set_cons_succ, val_cons, val_cons, Nat.pow_succ]
      have e1 : B ^ p * B * d = B * (B ^ p * d) := by rw [Nat.mul_comm (B ^ p) B, Nat.mul_assoc]
      have e2 : B ^ p * B * d' = B * (B ^ p * d') := by rw [Nat.mul_comm (B ^ p) B, Nat.mul_assoc]
      rw [e1, e2]
      have := congrArg (fun t => B * t) this
      simp only [Nat.mul_add] at this
      omega

/-- The sum of the first i digits of a and b: digits o and a carry. -/
structure AddI (B : Nat) (a b : List Nat) (i : Nat) (o : List Nat) (c : Nat) : Prop where
  len : o.length = i
  digs : Digs B o
  carry : c ≤ 1
  eq : val B o + B ^ i * c = val B (a.take i) + val B (b.take i)
theorem AddI.start (B : Nat) (a b : List Nat) : AddI B a b 0 [] 0 := ⟨rfl, Digs.nil B, by omega, by simp⟩
theorem AddI.step {B : Nat} {a b : List Nat} {i : Nat} {o : List Nat} {c : Nat} (hB : 2 ≤ B) (ha : Digs B a) (hb : Digs B b) (h : AddI B a b i o c) :
    AddI B a b (i + 1) (o ++ [(dg a i + dg b i + c) % B]) ((dg a i + dg b i + c) / B) := by
  have h1 := dg_lt ha (by omega) i
  have h2 := dg_lt hb (by omega) i
  have h3 := h.carry
  refine ⟨by simp [h.len], h.digs.snoc (Nat.mod_lt _ (by omega)), ?_, ?_⟩
  · have : (dg a i + dg b i + c) / B < 2 := by rw [Nat.div_lt_iff_lt_mul (by omega)]; omega
    omega
  · rw [val_snoc, h.len, val_take_dg, val_take_dg, Nat.pow_succ, Nat.mul_assoc, Nat.add_assoc, ← Nat.mul_add, Nat.mod_add_div, Nat.mul_add, Nat.mul_add]
    have := h.eq
    omega
theorem AddI.done {B : Nat} {a b : List Nat} {i : Nat} {o : List Nat} (h : AddI B a b i o 0) (ha : a.length ≤ i) (hb : b.length ≤ i) : val B o = val B a + val B b := by
  have := h.eq
  rw [List.take_of_length_le ha, List.take_of_length_le hb] at this
  simpa using this

theorem AddI.carry0 {B : Nat} {a b : List Nat} {k m : Nat} {o : List Nat} {c : Nat} (hB : 2 ≤ B) (h : AddI B a b k o c) (ha : Digs B a) (hb : Digs B b) (hla : a.length ≤ m) (hlb : b.length ≤ m) (hk : m + 1 ≤ k) : c = 0 := by
  have e := h.eq
  rw [List.take_of_length_le (by omega), List.take_of_length_le (by omega)] at e
  have h1 := Nat.lt_of_lt_of_le (val_lt ha) (Nat.pow_le_pow_right (by omega) hla)
  have h2 := Nat.lt_of_lt_of_le (val_lt hb) (Nat.pow_le_pow_right (by omega) hlb)
  rcases Nat.eq_zero_or_pos c with h3 | h3
  · exact h3
  · exfalso
    have h4 : B ^ (m + 1) ≤ B ^ k * c := Nat.le_trans (Nat.pow_le_pow_right (by omega) hk) (Nat.le_mul_of_pos_right _ h3)
    rw [Nat.pow_succ] at h4
    have h5 : B ^ m * 2 ≤ B ^ m * B := Nat.mul_le_mul_left _ hB
    omega
/-- The difference of the first i digits: digits o and a borrow. -/
structure SubI (B : Nat) (a b : List Nat) (i : Nat) (o : List Nat) (r : Nat) : Prop where
  len : o.length = i
  digs : Digs B o
  borrow : r ≤ 1
  eq : val B o + val B (b.take i) = val B (a.take i) + B ^ i * r
theorem SubI.start (B : Nat) (a b : List Nat) : SubI B a b 0 [] 0 := ⟨rfl, Digs.nil B, by omega, by simp⟩
theorem SubI.step {B : Nat} {a b : List Nat} {i : Nat} {o : List Nat} {r v r' : Nat} (hB : 2 ≤ B) (ha : Digs B a) (hb : Digs B b) (h : SubI B a b i o r) (hv : v < B) (hr : r' ≤ 1) (he : v + dg b i + r = dg a i + B * r') :
    SubI B a b (i + 1) (o ++ [v]) r' := by
  refine ⟨by simp [h.len], h.digs.snoc hv, hr, ?_⟩
  rw [val_snoc, h.len, val_take_dg, val_take_dg, Nat.pow_succ, Nat.mul_assoc]
  have := h.eq
  have h2 : B ^ i * (v + dg b i + r) = B ^ i * (dg a i + B * r') := by rw [he]
  simp only [Nat.mul_add] at h2
  omega
theorem SubI.done {B : Nat} {a b : List Nat} {o : List Nat} {r : Nat} (hB : 1 ≤ B) (h : SubI B a b a.length o r) (hb : b.length ≤ a.length) (hle : val B b ≤ val B a) : val B o = val B a - val B b := by
  have := h.eq
  rw [List.take_of_length_le (Nat.le_refl _), List.take_of_length_le hb] at this
  have hlt := val_lt h.digs
  rw [h.len] at hlt
  have hr := h.borrow
  have hr0 : r = 0 ∨ r = 1 := by omega
  rcases hr0 with rfl | rfl
  · simp at this; omega
  · rw [Nat.mul_one] at this; omega

/-- A product: i whole rows, and k digits of the next. -/
structure MulI (B : Nat) (a b : List Nat) (i k : Nat) (o : List Nat) (c : Nat) : Prop where
  len : o.length = a.length + b.length
  digs : Digs B o
  zero : ∀ j d, i + b.length ≤ j → o[j]? = some d → d = 0
  carry : c < B
  eq : val B o + B ^ (i + k) * c = val B (a.take i) * val B b + B ^ i * (dg a i * val B (b.take k))
theorem MulI.start {B : Nat} (hB : 1 ≤ B) (a b : List Nat) : MulI B a b 0 0 (List.replicate (a.length + b.length) 0) 0 := by
  refine ⟨by simp, Digs.zeros hB _, fun j d _ h => ?_, by omega, ?_⟩
  · have := List.mem_of_getElem? h
    exact (List.mem_replicate.1 this).2
  · simp [val_zeros]
theorem MulI.step {B : Nat} {a b : List Nat} {i k : Nat} {o : List Nat} {c d : Nat} (hB : 1 ≤ B) (ha : Digs B a) (hb : Digs B b) (h : MulI B a b i k o c) (hk : k < b.length) (hd : o[i + k]? = some d) :
    (d + dg a i * dg b k + c) / B < B ∧ MulI B a b i (k + 1) (o.set (i + k) ((d + dg a i * dg b k + c) % B)) ((d + dg a i * dg b k + c) / B) := by
  have h1 := dg_lt ha hB i
  have h2 := dg_lt hb hB k
  have h3 := h.carry
  have h4 := h.digs.at_ hd
  have hlt : (d + dg a i * dg b k + c) / B < B := by
    rw [Nat.div_lt_iff_lt_mul (by omega)]
    have h5 : dg a i * dg b k ≤ (B - 1) * (B - 1) := Nat.mul_le_mul (by omega) (by omega)
    obtain ⟨m, rfl⟩ : ∃ m, B = m + 1 := ⟨B - 1, by omega⟩
    simp only [Nat.add_sub_cancel] at h5
    have h6 : (m + 1) * (m + 1) = m * m + m + m + 1 := by rw [Nat.mul_add, Nat.add_mul]; omega
    omega
  refine ⟨hlt, by simp [h.len], h.digs.set_ (Nat.mod_lt _ (by omega)), ?_, hlt, ?_⟩
  · intro j e hj he
    rw [List.getElem?_set_ne (by omega)] at he
    exact h.zero j e hj he
  · have h5 := val_set (B := B) hd ((d + dg a i * dg b k + c) % B)
    have h6 := h.eq
    rw [val_take_dg, Nat.mul_add, Nat.mul_add, ← Nat.add_assoc i k 1]
    have e1 : B ^ (i + k + 1) * ((d + dg a i * dg b k + c) / B) + B ^ (i + k) * ((d + dg a i * dg b k + c) % B) = B ^ (i + k) * (d + dg a i * dg b k + c) := by
      rw [Nat.pow_succ, Nat.mul_assoc, ← Nat.mul_add, Nat.div_add_mod]
    have e2 : B ^ i * (dg a i * (B ^ k * dg b k)) = B ^ (i + k) * (dg a i * dg b k) := by
      rw [Nat.pow_add, Nat.mul_assoc, Nat.mul_left_comm (dg a i)]
    rw [e2]
    simp only [Nat.mul_add] at e1
    omega
theorem MulI.row {B : Nat} {a b : List Nat} {i : Nat} {o : List Nat} {c : Nat} (hB : 1 ≤ B) (h : MulI B a b i b.length o c) (hi : i < a.length) : MulI B a b (i + 1) 0 (o.set (i + b.length) c) 0 := by
  have hd : o[i + b.length]? = some 0 := by
    have hl : i + b.length < o.length := by rw [h.len]; omega
    have h1 := List.getElem?_eq_getElem hl
    have h2 := h.zero _ _ (Nat.le_refl _) h1
    rw [h1, h2]
  refine ⟨by simp [h.len], h.digs.set_ h.carry, ?_, by omega, ?_⟩
  · intro j e hj he
    rw [List.getElem?_set_ne (by omega)] at he
    exact h.zero j e (by omega) he
  · have h5 := val_set (B := B) hd c
    have h6 := h.eq
    rw [List.take_of_length_le (Nat.le_refl b.length)] at h6
    rw [val_take_dg, List.take_zero, val_nil, Nat.mul_zero, Nat.mul_zero, Nat.mul_zero, Nat.add_mul, Nat.mul_assoc]
    rw [Nat.mul_zero] at h5
    omega
theorem MulI.done {B : Nat} {a b : List Nat} {i : Nat} {o : List Nat} {c : Nat} (h : MulI B a b a.length 0 o 0) : val B o = val B a * val B b := by
  have := h.eq
  rw [List.take_of_length_le (Nat.le_refl a.length), List.take_zero] at this
  simpa using this

/-- A sign and an amount, as an integer. -/
def sg (s : Bool) (m : Nat) : Int := if s then -(m : Int) else m
theorem sg_abs (s : Bool) (m : Nat) : (sg s m).natAbs = m := by unfold sg; split <;> omega
theorem sg_neg (s : Bool) (m : Nat) : decide (sg s m < 0) = (s && decide (0 < m)) := by
  unfold sg
  cases s <;> simp
theorem sg_of (z : Int) : sg (decide (z < 0)) z.natAbs = z := by
  unfold sg
  by_cases h : z < 0 <;> simp [h] <;> omega

/-- What comparing two numbers gives. -/
def cmpI (x y : Int) : Int := if x < y then -1 else if y < x then 1 else 0
theorem cmpI_lt {x y : Int} (h : x < y) : cmpI x y = -1 := by unfold cmpI; rw [if_pos h]
theorem cmpI_gt {x y : Int} (h : y < x) : cmpI x y = 1 := by unfold cmpI; rw [if_neg (by omega), if_pos h]
theorem cmpI_eq {x y : Int} (h : x = y) : cmpI x y = 0 := by unfold cmpI; rw [if_neg (by omega), if_neg (by omega)]

end Go.Dig

namespace Go.Mem
set_option linter.unusedVariables false
open Go.RowKit
section
variable {P : Program} {fn : Func} {p q r : Tmp} {ty ty2 ty3 : TypeId} {w : World} {g g2 g3 : Nat} {t t2 t3 : TypeId} {cs cs2 cs3 : Array Value} {d d2 : TypeDesc}
/-- The type ty is a struct or an array of that many cells. -/
def Agg (P : Program) (ty : TypeId) (n : Nat) : Prop := ∃ d, P.underlying ty = some d ∧ (match d with | .struct _ | .array _ _ => true | _ => false) = true ∧ (P.info? ty).map (·.size) = some n
theorem Agg.load (h : Agg P ty cs.size) (hb : Blk w g t cs) : (loadVar ty ⟨g, 0, none⟩).run P w = .ok (.agg cs) w := by
  obtain ⟨d, hu, hd, hi⟩ := h
  exact run_loadVar_row w g t ty cs (0, 0) d hb hu (by cases d <;> first | rfl | (simp at hd)) hi
/-- The type ty is no struct and no array. -/
def Flat (P : Program) (ty : TypeId) : Prop := ∃ d, P.underlying ty = some d ∧ (match d with | .struct _ | .array _ _ => true | _ => false) = false
theorem Flat.load {v : Value} (h : Flat P ty) (hb : Blk w g t #[v]) : (loadVar ty ⟨g, 0, none⟩).run P w = .ok v w := by
  obtain ⟨d, hu, hd⟩ := h
  have hc := hb.cell 0 (u := v) rfl
  cases d <;> simp_all [loadVar, isAgg, run_underlying hu]
theorem res_c (h : fn.results = #[.cell p ty]) (tmps : Array Value) (hp : tmps.getD p undef = .pointer (some ⟨g, 0, none⟩)) {v : Value} (hl : (loadVar ty ⟨g, 0, none⟩).run P w = .ok v w) :
    (results fn tmps).run P w = .ok v w := by
  have hp' : tmps[p]?.getD undef = .pointer (some ⟨g, 0, none⟩) := by simpa using hp
  simp [results, h, hp', asAddr, hl]
theorem res_ct (h : fn.results = #[.cell p ty, .tmp q]) (tmps : Array Value) (hp : tmps.getD p undef = .pointer (some ⟨g, 0, none⟩)) {v u : Value} (hl : (loadVar ty ⟨g, 0, none⟩).run P w = .ok v w) (hq : tmps.getD q undef = u) :
    (results fn tmps).run P w = .ok (.tuple #[v, u]) w := by
  have hp' : tmps[p]?.getD undef = .pointer (some ⟨g, 0, none⟩) := by simpa using hp
  have hq' : tmps[q]?.getD undef = u := by simpa using hq
  simp [results, h, hp', hq', asAddr, hl]
theorem res_cct (h : fn.results = #[.cell p ty, .cell q ty2, .tmp r]) (tmps : Array Value) (hp : tmps.getD p undef = .pointer (some ⟨g, 0, none⟩)) {v v2 u : Value} (hl : (loadVar ty ⟨g, 0, none⟩).run P w = .ok v w)
    (hq : tmps.getD q undef = .pointer (some ⟨g2, 0, none⟩)) (hl2 : (loadVar ty2 ⟨g2, 0, none⟩).run P w = .ok v2 w) (hr : tmps.getD r undef = u) :
    (results fn tmps).run P w = .ok (.tuple #[v, v2, u]) w := by
  have hp' : tmps[p]?.getD undef = .pointer (some ⟨g, 0, none⟩) := by simpa using hp
  have hq' : tmps[q]?.getD undef = .pointer (some ⟨g2, 0, none⟩) := by simpa using hq
  have hr' : tmps[r]?.getD undef = u := by simpa using hr
  simp [results, h, hp', hq', hr', asAddr, hl, hl2]
theorem res_ccc (h : fn.results = #[.cell p ty, .cell q ty2, .cell r ty3]) (tmps : Array Value) (hp : tmps.getD p undef = .pointer (some ⟨g, 0, none⟩)) {v v2 v3 : Value} (hl : (loadVar ty ⟨g, 0, none⟩).run P w = .ok v w)
    (hq : tmps.getD q undef = .pointer (some ⟨g2, 0, none⟩)) (hl2 : (loadVar ty2 ⟨g2, 0, none⟩).run P w = .ok v2 w) (hr : tmps.getD r undef = .pointer (some ⟨g3, 0, none⟩)) (hl3 : (loadVar ty3 ⟨g3, 0, none⟩).run P w = .ok v3 w) :
    (results fn tmps).run P w = .ok (.tuple #[v, v2, v3]) w := by
  have hp' : tmps[p]?.getD undef = .pointer (some ⟨g, 0, none⟩) := by simpa using hp
  have hq' : tmps[q]?.getD undef = .pointer (some ⟨g2, 0, none⟩) := by simpa using hq
  have hr' : tmps[r]?.getD undef = .pointer (some ⟨g3, 0, none⟩) := by simpa using hr
  simp [results, h, hp', hq', hr', asAddr, hl, hl2, hl3]
theorem res_tct (h : fn.results = #[.tmp p, .cell q ty2, .tmp r]) (tmps : Array Value) {v v2 u : Value} (hp : tmps.getD p undef = v)
    (hq : tmps.getD q undef = .pointer (some ⟨g2, 0, none⟩)) (hl2 : (loadVar ty2 ⟨g2, 0, none⟩).run P w = .ok v2 w) (hr : tmps.getD r undef = u) :
    (results fn tmps).run P w = .ok (.tuple #[v, v2, u]) w := by
  have hp' : tmps[p]?.getD undef = v := by simpa using hp
  have hq' : tmps[q]?.getD undef = .pointer (some ⟨g2, 0, none⟩) := by simpa using hq
  have hr' : tmps[r]?.getD undef = u := by simpa using hr
  simp [results, h, hp', hq', hr', asAddr, hl2]
end

section
variable {w w' : World} {A : Option Addr} {n g : Nat} {t : TypeId} {cs : Array Value} {xs : List Value}
/-- A slice does not lie in a block that holds none of its values. -/
theorem Rd.apart (h : Rd w A n xs) (hb : Blk w g t cs) (hne : ∀ u ∈ xs, u ∉ cs.toList) (hn : 0 < n) : blk A ≠ some g := by
  obtain ⟨ad, u, rfl, hu, hc⟩ := h.at_ hn
  intro e
  have e : ad.block = g := by simpa [blk] using e
  have hm := List.mem_of_getElem? hu
  unfold World.cell? at hc
  rw [block_add, e] at hc
  unfold Blk at hb
  rw [hb] at hc
  simp only at hc
  split at hc
  · cases hc
  · exact hne u hm (by have := Array.mem_of_getElem? hc; simpa using this)
theorem Rd.store (h : Rd w A n xs) (hb : Blk w g t cs) (hne : ∀ u ∈ xs, u ∉ cs.toList) (hc : Chg (fun k => k = g) w w') : Rd w' A n xs := by
  rcases Nat.eq_zero_or_pos n with h0 | h0
  · subst h0; exact ⟨h.1, fun h => absurd h (by omega)⟩
  · exact h.chg hc (fun k hk _ e => h.apart hb hne h0 (by rw [hk, e]))
/-- No number among the values. -/
def NoInt (l : List Value) : Prop := ∀ k z, Value.int k z ∉ l
theorem Blk.set2 {x y : Value} (h : Blk w g t #[x, y]) (a b : Value) : Blk ((w.setCell ⟨g, 0, none⟩ a).setCell ⟨g, 1, none⟩ b) g t #[a, b] := (h.set_ 0 a).set_ 1 b
theorem Blk.set1 {x : Value} (h : Blk w g t #[x]) (a : Value) : Blk (w.setCell ⟨g, 0, none⟩ a) g t #[a] := h.set_ 0 a
theorem far1 {p : Addr} {v : Value} (h : w.cell? p = some v) (hne : p.block ≠ g) (x : Value) : (w.setCell ⟨g, 0, none⟩ x).cell? p = some v :=
  (World.cell?_of_block (Below.heap_setCell w ⟨g, 0, none⟩ x p.block hne)).trans h
theorem far2 {p : Addr} {v : Value} (h : w.cell? p = some v) (hne : p.block ≠ g) (x y : Value) : ((w.setCell ⟨g, 0, none⟩ x).setCell ⟨g, 1, none⟩ y).cell? p = some v :=
  (World.cell?_of_block (Below.heap_setCell _ ⟨g, 1, none⟩ y p.block hne)).trans (far1 h hne x)
theorem Chg.at1 (w : World) (g : Nat) (a : Value) : Chg (fun k => k = g) w (w.setCell ⟨g, 0, none⟩ a) := (Chg.refl (fun k => k = g) w).setCell (p := ⟨g, 0, none⟩) (fun _ => rfl) _
theorem Chg.at2 (w : World) (g : Nat) (a b : Value) : Chg (fun k => k = g) w ((w.setCell ⟨g, 0, none⟩ a).setCell ⟨g, 1, none⟩ b) := ((Chg.refl (fun k => k = g) w).setCell (p := ⟨g, 0, none⟩) (fun _ => rfl) _).setCell (p := ⟨g, 1, none⟩) (fun _ => rfl) _
/-- A change of a block that is the call's own. -/
theorem Chg.owned {S : Nat → Prop} {w0 : World} (h : New w0 w) (hc : Chg S w w') (hs : ∀ k, S k → w0.heap.size ≤ k) : New w0 w' := h.trans hc (fun k hk hS => by have := hs k hS; omega)
end

/-! ### a call in a world in which blocks have just been laid -/
section
variable {P : Program} {f : Nat} {args : Array Value} {w : World} {c1 c2 c3 c4 c5 : Array Value} {t1 t2 t3 t4 t5 : TypeId} {K : Ending → World → Prop}
theorem Calls.new1 (h : ∀ W, Blk W w.heap.size t1 c1 → New w W → W.heap.size = w.heap.size + 1 → Calls P f args W K) : Calls P f args (w.alloc (.cells c1 t1)) K :=
  h _ (Blk.new _ _ _) ((Chg.refl _ w).alloc _) (by simp)
theorem Calls.new2 (h : ∀ W, Blk W w.heap.size t1 c1 → Blk W (w.heap.size + 1) t2 c2 → New w W → W.heap.size = w.heap.size + 2 → Calls P f args W K) : Calls P f args ((w.alloc (.cells c1 t1)).alloc (.cells c2 t2)) K :=
  Calls.new1 fun W hb hn hz => h W ((Blk.new w t1 c1).chg hn (fun h => h)) (by rw [World.size_alloc] at hb; exact hb) (((Chg.refl _ w).alloc _).new hn) (by rw [hz]; simp)
theorem Calls.new3 (h : ∀ W, Blk W w.heap.size t1 c1 → Blk W (w.heap.size + 1) t2 c2 → Blk W (w.heap.size + 1 + 1) t3 c3 → New w W → W.heap.size = w.heap.size + 3 → Calls P f args W K) : Calls P f args (((w.alloc (.cells c1 t1)).alloc (.cells c2 t2)).alloc (.cells c3 t3)) K :=
  Calls.new2 fun W hb hb' hn hz => h W ((Blk.new w t1 c1).chg hn (fun h => h)) (by rw [World.size_alloc] at hb; exact hb) (by rw [World.size_alloc] at hb'; exact hb') (((Chg.refl _ w).alloc _).new hn) (by rw [hz]; simp)
theorem Calls.new4 (h : ∀ W, Blk W w.heap.size t1 c1 → Blk W (w.heap.size + 1) t2 c2 → Blk W (w.heap.size + 1 + 1) t3 c3 → Blk W (w.heap.size + 1 + 1 + 1) t4 c4 → New w W → W.heap.size = w.heap.size + 4 → Calls P f args W K) : Calls P f args ((((w.alloc (.cells c1 t1)).alloc (.cells c2 t2)).alloc (.cells c3 t3)).alloc (.cells c4 t4)) K :=
  Calls.new3 fun W hb hb' hb'' hn hz => h W ((Blk.new w t1 c1).chg hn (fun h => h)) (by rw [World.size_alloc] at hb; exact hb) (by rw [World.size_alloc] at hb'; exact hb') (by rw [World.size_alloc] at hb''; exact hb'') (((Chg.refl _ w).alloc _).new hn) (by rw [hz]; simp)
/-- A walk in such a world. -/
theorem Code.new1 {c : Code} {Q : Exit → Act → World → Prop} {a : Act} (h : ∀ W, Blk W w.heap.size t1 c1 → New w W → W.heap.size = w.heap.size + 1 → Code.wp P c Q a W) : Code.wp P c Q a (w.alloc (.cells c1 t1)) :=
  h _ (Blk.new _ _ _) ((Chg.refl _ w).alloc _) (by simp)
theorem Code.new2 {c : Code} {Q : Exit → Act → World → Prop} {a : Act} (h : ∀ W, Blk W w.heap.size t1 c1 → Blk W (w.heap.size + 1) t2 c2 → New w W → W.heap.size = w.heap.size + 2 → Code.wp P c Q a W) : Code.wp P c Q a ((w.alloc (.cells c1 t1)).alloc (.cells c2 t2)) :=
  Code.new1 fun W hb hn hz => h W ((Blk.new w t1 c1).chg hn (fun h => h)) (by rw [World.size_alloc] at hb; exact hb) (((Chg.refl _ w).alloc _).new hn) (by rw [hz]; simp)
theorem Code.new3 {c : Code} {Q : Exit → Act → World → Prop} {a : Act} (h : ∀ W, Blk W w.heap.size t1 c1 → Blk W (w.heap.size + 1) t2 c2 → Blk W (w.heap.size + 1 + 1) t3 c3 → New w W → W.heap.size = w.heap.size + 3 → Code.wp P c Q a W) : Code.wp P c Q a (((w.alloc (.cells c1 t1)).alloc (.cells c2 t2)).alloc (.cells c3 t3)) :=
  Code.new2 fun W hb hb' hn hz => h W ((Blk.new w t1 c1).chg hn (fun h => h)) (by rw [World.size_alloc] at hb; exact hb) (by rw [World.size_alloc] at hb'; exact hb') (((Chg.refl _ w).alloc _).new hn) (by rw [hz]; simp)
theorem Code.new4 {c : Code} {Q : Exit → Act → World → Prop} {a : Act} (h : ∀ W, Blk W w.heap.size t1 c1 → Blk W (w.heap.size + 1) t2 c2 → Blk W (w.heap.size + 1 + 1) t3 c3 → Blk W (w.heap.size + 1 + 1 + 1) t4 c4 → New w W → W.heap.size = w.heap.size + 4 → Code.wp P c Q a W) : Code.wp P c Q a ((((w.alloc (.cells c1 t1)).alloc (.cells c2 t2)).alloc (.cells c3 t3)).alloc (.cells c4 t4)) :=
  Code.new3 fun W hb hb' hb'' hn hz => h W ((Blk.new w t1 c1).chg hn (fun h => h)) (by rw [World.size_alloc] at hb; exact hb) (by rw [World.size_alloc] at hb'; exact hb') (by rw [World.size_alloc] at hb''; exact hb'') (((Chg.refl _ w).alloc _).new hn) (by rw [hz]; simp)
end
end Go.Mem

namespace Go.Proofs.Ytgofjkppeobjfaa
set_option linter.unusedVariables false
open Go.RowKit Go.Mem Go.Dig

theorem elemU32 : Elem Try.prog 35 61 (.int .u32 0) 4 := Elem.mk' Try.underlying35 (by kernel_rfl) rfl

set_option maxHeartbeats 400000 in
theorem trim_any (A : Option Addr) (n c : Nat) (l : List Nat) (w : World) (hr : Rd w A n (nv .u32 l)) (hnc : n ≤ c) (hc : c ≤ 9223372036854775807) :
    Calls Try.prog 39 #[.slice A n c] w fun e w' => e = .returned (.slice A (Dig.trim l).length c) ∧ w = w' := by
  have hl : l.length = n := by have := hr.len; rwa [nv_length] at this
  obtain ⟨T, hT⟩ : ∃ T, (Dig.trim l).length = T := ⟨_, rfl⟩
  rw [hT]
  have H0 := Lib.hid (And.intro hl (And.intro hr hT))
  clear hl hr hT
  have hup := fun (k : Nat) (i : Int) (hi : i = (k : Int)) (m : Nat) (hk : k ≤ c) (W : World) => run_upto elemU32 .i64 A m c k i hi hk W
  have HUP := Lib.hid hup
  clear hup
  go_enter Try.func39, Try.ntmps39
  go_wp2
  go_loop [0] (fun v => ∃ k : Nat, v = .slice A k c ∧ k ≤ n ∧ Hid ((Dig.trim (l.take k)).length = T)) (fun v => match v with | .slice _ k _ => k | _ => 0)
  case atStart =>
    obtain ⟨hl, hr, hT⟩ := H0.out
    exact ⟨n, rfl, Nat.le_refl _, by show _ = _; rw [List.take_of_length_le (by omega), hT]⟩
  case round =>
    obtain ⟨k, rfl, hk, HK⟩ := hrel
    by_cases h0 : k = 0
    · subst h0
      go_wp2
      go_ret
      have := HK.out
      simp [Dig.trim] at this
      rw [← this]
      exact ⟨rfl, rfl⟩
    · obtain ⟨j, rfl⟩ : ∃ j, k = j + 1 := ⟨k - 1, by omega⟩
      have hpos : decide ((0 : Int) < ((j + 1 : Nat) : Int)) = true := by simp
      obtain ⟨hl, hr, hT⟩ := H0.out
      obtain ⟨ad, u, rfl, hu, hcu⟩ := hr.at_ (show j < n by omega)
      obtain ⟨z, hz, rfl⟩ := nv_at hu
      have HZ := Lib.hid hz
      clear hl hr hT hu hz
      by_cases hz0 : z = 0
      · subst hz0
        have hup := HUP.out j ((j + 1 : Nat) - 1 : Int) (by omega) (j + 1) (by omega)
        go_wp2
        go_round
        case rel => exact ⟨j, rfl, by omega, by show _ = _; rw [← HK.out, trim_step HZ.out rfl]⟩
        case measure => simp
      · have hzb : ((z : Int) == 0) = false := by simp; omega
        go_wp2
        go_ret
        have := HK.out
        rw [trim_stop HZ.out hz0, List.length_take, Nat.min_eq_left (by have := H0.out.1; omega)] at this
        rw [← this]
        exact ⟨rfl, rfl⟩

theorem aggInt : Agg Try.prog 37 2 := ⟨_, Try.underlying37, rfl, by kernel_rfl⟩

set_option maxHeartbeats 400000 in
theorem made_any (s : Bool) (A : Option Addr) (n c : Nat) (l : List Nat) (w : World) (hr : Rd w A n (nv .u32 l)) (hnc : n ≤ c) (hc : c ≤ 9223372036854775807) :
    Calls Try.prog 25 #[.bool s, .slice A n c] w fun e w' => e = .returned (.agg #[.bool (s && decide (0 < (Dig.trim l).length)), .slice A (Dig.trim l).length c]) ∧ New w w' := by
  obtain ⟨T, hT⟩ : ∃ T, (Dig.trim l).length = T := ⟨_, rfl⟩
  rw [hT]
  have HR := Lib.hid (And.intro hr hT)
  clear hr hT
  have hfin : ∀ b : Bool, bodyPost Try.prog Try.f25 (fun e w' => e = .returned (.agg #[.bool b, .slice A T c]) ∧ New w w') .ret = bodyPost Try.prog Try.f25 (fun e w' => e = .returned (.agg #[.bool b, .slice A T c]) ∧ New w w') .ret := fun _ => rfl
  clear hfin
  cases s
  · rw [Bool.false_and]
    go_enter Try.func25, Try.ntmps25
    go_wp2_with fail
    refine (trim_any A n c l _ (HR.out.1.new ((Chg.refl _ _).alloc _)) hnc hc).mono ?_
    rintro e w1 ⟨rfl, rfl⟩
    rw [HR.out.2]
    go_wp2
    exact bodyPost_ret (res_c rfl _ rfl (aggInt.load (Blk.new _ _ _))) rfl ⟨rfl, (Chg.refl _ w).alloc _⟩
  · rw [Bool.true_and]
    by_cases h0 : T = 0
    · rw [show decide (0 < T) = false by simp; omega]
      subst h0
      go_enter Try.func25, Try.ntmps25
      go_wp2_with fail
      refine (trim_any A n c l _ (HR.out.1.new ((Chg.refl _ _).alloc _)) hnc hc).mono ?_
      rintro e w1 ⟨rfl, rfl⟩
      rw [HR.out.2]
      go_wp2
      exact bodyPost_ret (res_c rfl _ rfl (aggInt.load (Blk.new _ _ _))) rfl ⟨rfl, (Chg.refl _ w).alloc _⟩
    · rw [show decide (0 < T) = true by simp; omega]
      have hpos : (0 : Int) < (T : Int) := by omega
      have hTpos : 0 < T := by omega
      go_enter Try.func25, Try.ntmps25
      go_wp2_with fail
      refine (trim_any A n c l _ (HR.out.1.new ((Chg.refl _ _).alloc _)) hnc hc).mono ?_
      rintro e w1 ⟨rfl, rfl⟩
      rw [HR.out.2]
      go_wp2
      exact bodyPost_ret (res_c rfl _ rfl (aggInt.load (Blk.new _ _ _))) rfl ⟨rfl, (Chg.refl _ w).alloc _⟩

/-- The amount m lies in a slice. -/
def WM (w : World) (A : Option Addr) (n c : Nat) (m : Nat) : Prop := ∃ l, Rd w A n (nv .u32 l) ∧ n ≤ c ∧ c ≤ 9223372036854775807 ∧ Num 4294967296 l m
theorem WM.new {w w' : World} {A : Option Addr} {n c m : Nat} (h : WM w A n c m) (hn : New w w') : WM w' A n c m := by
  obtain ⟨l, h1, h2⟩ := h
  exact ⟨l, h1.new hn, h2⟩
theorem WM.store {w w' : World} {A : Option Addr} {n c m g : Nat} {t : TypeId} {cs : Array Value} (h : WM w A n c m) (hb : Blk w g t cs) (hi : NoInt cs.toList) (hc : Chg (fun k => k = g) w w') : WM w' A n c m := by
  obtain ⟨l, h1, h2⟩ := h
  refine ⟨l, h1.store hb (fun u hu => ?_) hc, h2⟩
  obtain ⟨z, _, rfl⟩ := List.mem_map.1 hu
  exact hi _ _
theorem WM.zero (w : World) : WM w none 0 0 0 := ⟨[], Rd.nil _ _, Nat.le_refl _, by omega, Num.zero _⟩
theorem WM.pos {w : World} {A : Option Addr} {n c m : Nat} (h : WM w A n c m) : n = 0 ↔ m = 0 := by
  obtain ⟨l, h1, _, _, h4⟩ := h
  rw [← h4.nil_iff (by omega)]
  have := h1.len
  rw [nv_length] at this
  constructor
  · intro h; exact List.eq_nil_of_length_eq_zero (by omega)
  · intro h; subst h; simpa using this.symm
theorem WM.lt {w : World} {A : Option Addr} {n c m : Nat} (h : WM w A n c m) {k : Nat} (hk : n ≤ k) : m < 4294967296 ^ k := by
  obtain ⟨l, h1, _, _, h4⟩ := h
  exact h4.lt (by omega) (by have := h1.len; rw [nv_length] at this; omega)
theorem WM.len {w : World} {A : Option Addr} {n c m : Nat} (h : WM w A n c m) {k : Nat} (hk : m < 4294967296 ^ k) : n ≤ k := by
  obtain ⟨l, h1, _, _, h4⟩ := h
  have := h4.len_le (by omega) hk
  have := h1.len
  rw [nv_length] at this
  omega
/-- v is the wide.Int z. -/
def WI (w : World) (v : Value) (z : Int) : Prop := ∃ s A n c, v = .agg #[.bool s, .slice A n c] ∧ s = decide (z < 0) ∧ WM w A n c z.natAbs
theorem WI.new {w w' : World} {v : Value} {z : Int} (h : WI w v z) (hn : New w w') : WI w' v z := by
  obtain ⟨s, A, n, c, h1, h2, h3⟩ := h
  exact ⟨s, A, n, c, h1, h2, h3.new hn⟩
theorem WI.zero (w : World) : WI w (.agg #[.bool false, .slice none 0 0]) 0 := ⟨_, _, _, _, rfl, rfl, WM.zero w⟩
theorem WI.store {w w' : World} {v : Value} {z : Int} {g : Nat} {t : TypeId} {cs : Array Value} (h : WI w v z) (hb : Blk w g t cs) (hi : NoInt cs.toList) (hc : Chg (fun k => k = g) w w') : WI w' v z := by
  obtain ⟨s, A, n, c, h1, h2, h3⟩ := h
  exact ⟨s, A, n, c, h1, h2, h3.store hb hi hc⟩
theorem noInt_two (s : Bool) (A : Option Addr) (n c : Nat) : NoInt (#[Value.bool s, Value.slice A n c] : Array Value).toList := fun k z h => by simp at h
/-- made: the sign and any digits. -/
theorem made_wi (s : Bool) (A : Option Addr) (n c : Nat) (l : List Nat) (w : World) (hr : Rd w A n (nv .u32 l)) (hd : Digs 4294967296 l) (hnc : n ≤ c) (hc : c ≤ 9223372036854775807) :
    Calls Try.prog 25 #[.bool s, .slice A n c] w fun e w' => ∃ v, e = .returned v ∧ WI w' v (sg s (val 4294967296 l)) ∧ New w w' := by
  refine (made_any s A n c l w hr hnc hc).mono ?_
  rintro e w' ⟨rfl, hn⟩
  have hN := Num.of_trim hd
  have hll : l.length = n := by have := hr.len; rwa [nv_length] at this
  have hlen := trim_len l
  refine ⟨_, rfl, ⟨_, _, _, _, rfl, ?_, Dig.trim l, ?_, by omega, hc, ?_⟩, hn⟩
  · rw [sg_neg]
    congr 1
    rw [decide_eq_decide]
    have := hN.nil_iff (by omega)
    constructor
    · intro h
      rcases Nat.eq_zero_or_pos (val 4294967296 l) with h1 | h1
      · rw [this.2 h1] at h; simp at h
      · exact h1
    · intro h
      rcases Nat.eq_zero_or_pos (Dig.trim l).length with h1 | h1
      · have := this.1 (List.eq_nil_of_length_eq_zero h1); omega
      · exact h1
  · have := (hr.new hn).take (k := (Dig.trim l).length) (by omega)
    rw [nv_take, ← trim_take] at this
    exact this
  · rw [sg_abs]; exact hN

set_option maxRecDepth 100000 in
set_option maxHeartbeats 1000000 in
theorem cmpMag_any (A : Option Addr) (n c : Nat) (A' : Option Addr) (n' c' : Nat) (x y : Nat) (w : World) (hx : WM w A n c x) (hy : WM w A' n' c' y) :
    Calls Try.prog 38 #[.slice A n c, .slice A' n' c'] w fun e w' => e = .returned (.int .i64 (cmpI x y)) ∧ ∃ q, w' = w.drewN q := by
  obtain ⟨la, ha, hc1, hc2, hNa⟩ := hx
  obtain ⟨lb, hb, hd1, hd2, hNb⟩ := hy
  have hla : la.length = n := by have := ha.len; rwa [nv_length] at this
  have hlb : lb.length = n' := by have := hb.len; rwa [nv_length] at this
  rcases Nat.lt_trichotomy n n' with h | h | h
  · rw [cmpI_lt (by have := hNa.len_lt (by omega) hNb (by omega); omega)]
    have hne : ((n : Int) != (n' : Int)) = true := by simp; omega
    clear hla hlb ha hb hNa hNb
    go_enter Try.func38, Try.ntmps38
    go_wp2
    go_ret
    exact ⟨rfl, 0, rfl⟩
  · subst h
    obtain ⟨C, hC⟩ : ∃ C, cmpI x y = C := ⟨_, rfl⟩
    rw [hC]
    have H0 := Lib.hid (And.intro ha (And.intro hb (And.intro hNa (And.intro hNb (And.intro hla (And.intro hlb hC))))))
    clear ha hb hNa hNb hla hlb hC
    go_enter Try.func38, Try.ntmps38
    go_wp2
    go_loopw [5] (fun i wr => ∃ k : Nat, k ≤ n ∧ i = .int .i64 ((k : Int) - 1) ∧ Hid (la.drop k = lb.drop k) ∧ ∃ q, wr = w.drewN q) (fun i _ => (intOf i + 1).toNat)
    case atStart =>
      obtain ⟨ha, hb, hNa, hNb, hla, hlb, hC⟩ := H0.out
      exact ⟨n, Nat.le_refl _, rfl, by show _ = _; rw [List.drop_of_length_le (by omega), List.drop_of_length_le (by omega)], 0, rfl⟩
    case round =>
      obtain ⟨k, hk, rfl, HD, q, hq⟩ := hrel
      have hnew : New w wr := by rw [hq]; exact (Chg.refl _ w).drewN q
      have HQ := Lib.hid hq
      clear hq
      by_cases h0 : k = 0
      · subst h0
        go_wp2
        go_ret
        obtain ⟨ha, hb, hNa, hNb, hla, hlb, hC⟩ := H0.out
        have e := HD.out
        rw [List.drop_zero, List.drop_zero] at e
        rw [← hC, cmpI_eq (by rw [← hNa.val, ← hNb.val, e])]
        exact ⟨rfl, q, HQ.out⟩
      · obtain ⟨j, rfl⟩ : ∃ j, k = j + 1 := ⟨k - 1, by omega⟩
        obtain ⟨ha, hb, hNa, hNb, hla, hlb, hC⟩ := H0.out
        obtain ⟨ad, u, rfl, hu, hcu⟩ := (ha.new hnew).at_ (show j < n by omega)
        obtain ⟨bd, v, rfl, hv, hcv⟩ := (hb.new hnew).at_ (show j < n by omega)
        obtain ⟨p, hp, rfl⟩ := nv_at hu
        obtain ⟨r, hr, rfl⟩ := nv_at hv
        have HP := Lib.hid (And.intro hp hr)
        have hj1 : (((j + 1 : Nat) : Int) - 1) = (j : Int) := by omega
        rw [hj1]
        clear hj1 ha hb hNa hNb hla hlb hC hu hv hp hr hnew
        rcases Nat.lt_trichotomy p r with h | h | h
        · have hlt : (p : Int) < (r : Int) := by omega
          go_wp2
          go_quiet (fail)
          go_wp2
          go_ret
          obtain ⟨ha, hb, hNa, hNb, hla, hlb, hC⟩ := H0.out
          obtain ⟨hp, hr⟩ := HP.out
          have := val_lt_of hNa.digs (by omega) hp hr HD.out h
          rw [hNa.val, hNb.val] at this
          rw [← hC, cmpI_lt (by omega)]
          exact ⟨rfl, _, by rw [HQ.out, World.drewN_drewN]⟩
        · subst h
          have hlt : decide ((p : Int) < (p : Int)) = false := by simp
          go_wp2
          go_quiet (fail)
          go_wp2
          go_quiet (fail)
          go_wp2
          go_roundw
          case rel =>
            obtain ⟨hp, hr⟩ := HP.out
            exact ⟨j, by omega, by go_num, drop_step hp hr HD.out, _, by rw [HQ.out, World.drewN_drewN]⟩
          case measure => simp [intOf]
        · have hlt : decide ((p : Int) < (r : Int)) = false := by simp; omega
          have hgt : (r : Int) < (p : Int) := by omega
          go_wp2
          go_quiet (fail)
          go_wp2
          go_quiet (fail)
          go_wp2
          go_ret
          obtain ⟨ha, hb, hNa, hNb, hla, hlb, hC⟩ := H0.out
          obtain ⟨hp, hr⟩ := HP.out
          have := val_lt_of hNb.digs (by omega) hr hp HD.out.symm h
          rw [hNa.val, hNb.val] at this
          rw [← hC, cmpI_gt (by omega)]
          exact ⟨rfl, _, by rw [World.drewN_drewN, HQ.out, World.drewN_drewN]⟩
  · rw [cmpI_gt (by have := hNb.len_lt (by omega) hNa (by omega); omega)]
    have hne : ((n : Int) != (n' : Int)) = true := by simp; omega
    have hlt : decide ((n : Int) < (n' : Int)) = false := by simp; omega
    have hlt' : decide (n < n') = false := by simp; omega
    clear hla hlb ha hb hNa hNb
    go_enter Try.func38, Try.ntmps38
    go_wp2
    go_ret
    exact ⟨rfl, 0, rfl⟩
end Go.Proofs.Ytgofjkppeobjfaa

namespace Go.Proofs.Ytgofjkppeobjfaa
set_option linter.unusedVariables false
open Go.RowKit Go.Mem Go.Dig

theorem rd_lit2 {w : World} {a b g : Nat} {e : TypeId} (hg : g = w.heap.size) : Rd (w.alloc (.cells #[.int .u32 (a : Int), .int .u32 (b : Int)] e)) (some ⟨g, 0, none⟩) 2 (nv .u32 [a, b]) := by
  subst hg; exact Rd.lit (nv .u32 [a, b]) rfl

set_option maxHeartbeats 400000 in
theorem from_any (n : Int) (w : World) (h1 : -9223372036854775808 ≤ n) (h2 : n ≤ 9223372036854775807) :
    Calls Try.prog 13 #[.int .i64 n] w fun e w' => ∃ v, e = .returned v ∧ WI w' v n ∧ New w w' := by
  obtain ⟨M, hM⟩ : ∃ M : Nat, n.natAbs = M := ⟨_, rfl⟩
  have hv : val 4294967296 [M % 4294967296, M / 4294967296] = M := by simp only [val_cons, val_nil]; omega
  have hdg : Digs 4294967296 [M % 4294967296, M / 4294967296] := Digs.cons (by omega) (Digs.cons (by omega) (Digs.nil _))
  by_cases h : n < 0
  · obtain rfl : n = -(M : Int) := by omega
    have hw : IntKind.u64.wrap (-IntKind.u64.wrap (-(M : Int))) = (M : Int) := by rw [IntKind.wrap_u64, IntKind.wrap_u64]; omega
    have H := Lib.hid (And.intro hv hdg)
    have hMb : M ≤ 9223372036854775808 := by omega
    clear hM hv hdg
    go_enter Try.func13, Try.ntmps13
    go_wp2_with fail
    rw [show ((M : Int) % 4294967296) = ((M % 4294967296 : Nat) : Int) by omega, show ((M : Int) / 4294967296) = ((M / 4294967296 : Nat) : Int) by omega]
    obtain ⟨hv, hdg⟩ := H.out
    have hb0 := Blk.new w 37 #[.bool false, .slice none 0 0]
    have hn0 : New w ((w.alloc (.cells #[.bool false, .slice none 0 0] 37)).alloc (.cells #[.int .u32 ((M % 4294967296 : Nat) : Int), .int .u32 ((M / 4294967296 : Nat) : Int)] 61)) := ((Chg.refl _ w).alloc _).alloc _
    refine (made_wi true _ 2 2 [M % 4294967296, M / 4294967296] _ (rd_lit2 (by simp)) hdg (by omega) (by omega)).mono ?_
    rintro e w1 ⟨v, rfl, hwi, hn1⟩
    rw [hv] at hwi
    have hb1 := (hb0.alloc (.cells #[.int .u32 ((M % 4294967296 : Nat) : Int), .int .u32 ((M / 4294967296 : Nat) : Int)] 61)).chg hn1 (fun h => h)
    obtain ⟨s, A, k, c, rfl, hs, hwm⟩ := hwi
    have hc0 := hb1.cell 0 rfl
    have hc1 := hb1.cell 1 rfl
    have hf0 := hb1.frozen 0
    have hf1 := hb1.frozen 1
    have H1 := Lib.hid (And.intro hb1 (And.intro (hn0.new hn1) (And.intro hs hwm)))
    clear hv hdg hb0 hn0 hn1 hb1 hs hwm hw H
    go_wp2
    obtain ⟨hb1, hn1, hs, hwm⟩ := H1.out
    have hn2 : New w ((w1.setCell ⟨w.heap.size, 0, none⟩ (.bool s)).setCell ⟨w.heap.size, 1, none⟩ (.slice A k c)) := (hn1.setCell (fun h => absurd h (by simp)) _).setCell (fun h => absurd h (by simp)) _
    refine bodyPost_ret (res_c rfl _ rfl (aggInt.load (hb1.set2 _ _))) rfl ⟨_, rfl, ⟨s, A, k, c, rfl, hs, ?_⟩, hn2⟩
    exact hwm.store hb1 (noInt_two _ _ _ _) (Chg.at2 _ _ _ _)
  · obtain rfl : n = (M : Int) := by omega
    have hd : decide ((M : Int) < 0) = false := by simp
    have H := Lib.hid (And.intro hv hdg)
    clear hM hv hdg
    go_enter Try.func13, Try.ntmps13
    go_wp2_with fail
    rw [show ((M : Int) % 4294967296) = ((M % 4294967296 : Nat) : Int) by omega, show ((M : Int) / 4294967296) = ((M / 4294967296 : Nat) : Int) by omega]
    obtain ⟨hv, hdg⟩ := H.out
    have hb0 := Blk.new w 37 #[.bool false, .slice none 0 0]
    have hn0 : New w ((w.alloc (.cells #[.bool false, .slice none 0 0] 37)).alloc (.cells #[.int .u32 ((M % 4294967296 : Nat) : Int), .int .u32 ((M / 4294967296 : Nat) : Int)] 61)) := ((Chg.refl _ w).alloc _).alloc _
    refine (made_wi false _ 2 2 [M % 4294967296, M / 4294967296] _ (rd_lit2 (by simp)) hdg (by omega) (by omega)).mono ?_
    rintro e w1 ⟨v, rfl, hwi, hn1⟩
    rw [hv] at hwi
    have hb1 := (hb0.alloc (.cells #[.int .u32 ((M % 4294967296 : Nat) : Int), .int .u32 ((M / 4294967296 : Nat) : Int)] 61)).chg hn1 (fun h => h)
    obtain ⟨s, A, k, c, rfl, hs, hwm⟩ := hwi
    have hc0 := hb1.cell 0 rfl
    have hc1 := hb1.cell 1 rfl
    have hf0 := hb1.frozen 0
    have hf1 := hb1.frozen 1
    have H1 := Lib.hid (And.intro hb1 (And.intro (hn0.new hn1) (And.intro hs hwm)))
    clear hv hdg hb0 hn0 hn1 hb1 hs hwm H
    go_wp2
    obtain ⟨hb1, hn1, hs, hwm⟩ := H1.out
    have hn2 : New w ((w1.setCell ⟨w.heap.size, 0, none⟩ (.bool s)).setCell ⟨w.heap.size, 1, none⟩ (.slice A k c)) := (hn1.setCell (fun h => absurd h (by simp)) _).setCell (fun h => absurd h (by simp)) _
    refine bodyPost_ret (res_c rfl _ rfl (aggInt.load (hb1.set2 _ _))) rfl ⟨_, rfl, ⟨s, A, k, c, rfl, hs, ?_⟩, hn2⟩
    exact hwm.store hb1 (noInt_two _ _ _ _) (Chg.at2 _ _ _ _)
set_option maxHeartbeats 400000 in
theorem compare_any (v v' : Value) (x y : Int) (w : World) (hx : WI w v x) (hy : WI w v' y) :
    Calls Try.prog 24 #[v, v'] w fun e w' => e = .returned (.int .i64 (cmpI x y)) ∧ New w w' := by
  obtain ⟨s, A, n, c, rfl, hs, hm⟩ := hx
  obtain ⟨s', A', n', c', rfl, hs', hm'⟩ := hy
  have H := Lib.hid (And.intro hs (And.intro hm (And.intro hs' hm')))
  clear hs hs' hm hm'
  cases s <;> cases s'
  · go_enter Try.func24, Try.ntmps24
    go_wp2_with fail
    obtain ⟨hs, hm, hs', hm'⟩ := H.out
    have hn0 : New w ((w.alloc (.cells #[.bool false, .slice A n c] 37)).alloc (.cells #[.bool false, .slice A' n' c'] 37)) := ((Chg.refl _ w).alloc _).alloc _
    refine (cmpMag_any A n c A' n' c' x.natAbs y.natAbs _ (hm.new hn0) (hm'.new hn0)).mono ?_
    rintro e w1 ⟨rfl, q, hq⟩
    have h1 : ¬ x < 0 := by simpa using hs.symm
    have h2 : ¬ y < 0 := by simpa using hs'.symm
    rw [show ((x.natAbs : Nat) : Int) = x by omega, show ((y.natAbs : Nat) : Int) = y by omega]
    have H1 := Lib.hid (show New w w1 by rw [hq]; exact hn0.drewN q)
    clear hs hm hs' hm' hn0 hq h1 h2
    go_wp2
    go_ret
    exact ⟨rfl, H1.out⟩
  · go_enter Try.func24, Try.ntmps24
    go_wp2
    go_ret
    obtain ⟨hs, hm, hs', hm'⟩ := H.out
    have h1 : ¬ x < 0 := by simpa using hs.symm
    have h2 : y < 0 := by simpa using hs'.symm
    exact ⟨by rw [cmpI_gt (by omega)]; rfl, ((Chg.refl _ w).alloc _).alloc _⟩
  · go_enter Try.func24, Try.ntmps24
    go_wp2
    go_ret
    obtain ⟨hs, hm, hs', hm'⟩ := H.out
    have h1 : x < 0 := by simpa using hs.symm
    have h2 : ¬ y < 0 := by simpa using hs'.symm
    exact ⟨by rw [cmpI_lt (by omega)]; rfl, ((Chg.refl _ w).alloc _).alloc _⟩
  · go_enter Try.func24, Try.ntmps24
    go_wp2_with fail
    obtain ⟨hs, hm, hs', hm'⟩ := H.out
    have hn0 : New w ((w.alloc (.cells #[.bool true, .slice A n c] 37)).alloc (.cells #[.bool true, .slice A' n' c'] 37)) := ((Chg.refl _ w).alloc _).alloc _
    refine (cmpMag_any A' n' c' A n c y.natAbs x.natAbs _ (hm'.new hn0) (hm.new hn0)).mono ?_
    rintro e w1 ⟨rfl, q, hq⟩
    have h1 : x < 0 := by simpa using hs.symm
    have h2 : y < 0 := by simpa using hs'.symm
    rw [show cmpI ((y.natAbs : Nat) : Int) ((x.natAbs : Nat) : Int) = cmpI x y by
      rw [show ((y.natAbs : Nat) : Int) = -y by omega, show ((x.natAbs : Nat) : Int) = -x by omega]
      unfold cmpI
      repeat' split
      all_goals omega]
    have H1 := Lib.hid (show New w w1 by rw [hq]; exact hn0.drewN q)
    clear hs hm hs' hm' hn0 hq h1 h2
    go_wp2
    go_ret
    exact ⟨rfl, H1.out⟩

set_option maxHeartbeats 400000 in
theorem sign_any (v : Value) (x : Int) (w : World) (hx : WI w v x) :
    Calls Try.prog 17 #[v] w fun e w' => e = .returned (.int .i64 (cmpI x 0)) ∧ New w w' := by
  obtain ⟨s, A, n, c, rfl, hs, hm⟩ := hx
  have H := Lib.hid (And.intro hs hm)
  clear hs hm
  go_enter Try.func17, Try.ntmps17
  go_wp2_with fail
  have hn0 : New w (w.alloc (.cells #[.bool s, .slice A n c] 37)) := (Chg.refl _ w).alloc _
  refine (compare_any _ _ x 0 _ (WI.new ⟨s, A, n, c, rfl, H.out⟩ hn0) (WI.zero _)).mono ?_
  rintro e w1 ⟨rfl, hn1⟩
  have H1 := Lib.hid (hn0.new hn1)
  clear hn0 hn1
  go_wp2
  go_ret
  exact ⟨rfl, H1.out⟩

set_option maxHeartbeats 400000 in
theorem neg_any (v : Value) (x : Int) (w : World) (hx : WI w v x) :
    Calls Try.prog 36 #[v] w fun e w' => ∃ v, e = .returned v ∧ WI w' v (-x) ∧ New w w' := by
  obtain ⟨s, A, n, c, rfl, hs, l, hr, hnc, hcm, hN⟩ := hx
  have H := Lib.hid (And.intro hs (And.intro hr hN))
  clear hs hr hN
  go_enter Try.func36, Try.ntmps36
  go_wp2_with fail
  obtain ⟨hs, hr, hN⟩ := H.out
  have hb0 := Blk.new (w.alloc (.cells #[.bool s, .slice A n c] 37)) 37 #[.bool false, .slice none 0 0]
  rw [World.size_alloc] at hb0
  have hn0 : New w ((w.alloc (.cells #[.bool s, .slice A n c] 37)).alloc (.cells #[.bool false, .slice none 0 0] 37)) := ((Chg.refl _ w).alloc _).alloc _
  refine (made_wi (!s) A n c l _ (hr.new hn0) hN.digs hnc hcm).mono ?_
  rintro e w1 ⟨v, rfl, hwi, hn1⟩
  have hval : sg (!s) (val 4294967296 l) = -x := by
    rw [hN.val, hs]
    unfold sg
    by_cases h : x < 0 <;> simp [h] <;> omega
  rw [hval] at hwi
  have hb1 := hb0.chg hn1 (fun h => h)
  obtain ⟨s', A', n', c', rfl, hs', hwm⟩ := hwi
  have hc0 := hb1.cell 0 rfl
  have hc1 := hb1.cell 1 rfl
  have hf0 := hb1.frozen 0
  have hf1 := hb1.frozen 1
  have H1 := Lib.hid (And.intro hb1 (And.intro (hn0.new hn1) (And.intro hs' hwm)))
  clear hb0 hn0 hn1 hb1 hs' hwm H hs hr hN hval
  go_wp2
  obtain ⟨hb1, hn1, hs, hwm⟩ := H1.out
  refine bodyPost_ret (res_c rfl _ rfl (aggInt.load (hb1.set2 _ _))) rfl ⟨_, rfl, ⟨s', A', n', c', rfl, hs, ?_⟩, ?_⟩
  · exact hwm.store hb1 (noInt_two _ _ _ _) (Chg.at2 _ _ _ _)
  · exact Chg.owned hn1 (Chg.at2 _ _ _ _) (fun k e => by omega)
end Go.Proofs.Ytgofjkppeobjfaa

namespace Go.Mem
set_option linter.unusedVariables false
open Go.RowKit

theorem own_form {w : World} {base : Nat} {e : TypeId} {A : Option Addr} {n c : Nat} {xs : List Value} (h : w.ownsRow base e 1 (.slice A n c) n xs) (hn : 0 < n) : ∃ g, A = some ⟨g, 0, none⟩ ∧ base ≤ g ∧ g < w.heap.size ∧ ∀ i, w.frozen? ⟨g, i, none⟩ = false := by
  rcases h.2 with ⟨_, rfl⟩ | ⟨g, cap, cur, hv, hb, hg, _⟩
  · omega
  · injection hv with hA
    exact ⟨g, hA, hb, (Array.getElem?_eq_some_iff.1 hg).1, fun i => by simp [World.frozen?, hg]⟩
theorem own_cell {w : World} {base : Nat} {e : TypeId} {g n c : Nat} {xs : List Value} (h : w.ownsRow base e 1 (.slice (some ⟨g, 0, none⟩) n c) n xs) {i : Nat} {u : Value} (hu : xs[i]? = some u) : w.cell? ⟨g, i, none⟩ = some u := by
  have hr := Rd.of_own h
  have hi : i < n := by have := (List.getElem?_eq_some_iff.1 hu).1; have := hr.1; omega
  obtain ⟨ad, hA, hc⟩ := hr.2 (by omega)
  injection hA with hA
  subst hA
  have := hc i u hu
  rwa [Addr.add_lit, Nat.zero_add] at this
theorem own_set {w : World} {base : Nat} {e : TypeId} {g n c : Nat} {xs : List Value} (h : w.ownsRow base e 1 (.slice (some ⟨g, 0, none⟩) n c) n xs) (i : Nat) (u : Value) (hi : i < n) : (w.setCell ⟨g, i, none⟩ u).ownsRow base e 1 (.slice (some ⟨g, 0, none⟩) n c) n (xs.set i u) := by
  refine ⟨by simpa using h.1, ?_⟩
  rcases h.2 with ⟨hv, _⟩ | ⟨g', cap, cur, hv, hb, hg, h1, h2, h3, h4⟩
  · injection hv with hA; cases hA
  · injection hv with hA hn hc
    injection hA with hA
    injection hA with hA
    subst hA hc
    refine .inr ⟨g, c, cur.setIfInBounds i u, rfl, hb, ?_, h1, h2, by simpa using h3, ?_⟩
    · simp [World.setCell, Array.getElem?_modify, hg]
    · rw [Array.toList_setIfInBounds, List.take_set, h4]
end Go.Mem

namespace Go.Mem
set_option linter.unusedVariables false
open Go.RowKit
theorem wpList_mk {P : Program} {w : World} {t e : TypeId} {z : Value} {bytes : Nat} (hE : Elem P t e z bytes) (hz : z.cells = #[z]) {ops : Array Oper} {rest : List Oper} {o : Oper} {a : Act} {Q : Exit → Act → World → Prop} (hgd : o.guard = none) (l c : Operand)
    (ho : o.op = Op.makeSlice t l c) {kl kc : IntKind} {L C : Int} {n : Nat} (hl : a.eval l = .int kl L) (hc : a.eval c = .int kc C) (hL : L = (n : Int)) (hC : C = (n : Int)) (b2 : bytes * n ≤ 281474976710656) (b3 : n ≤ maxLen)
    (h : ∀ w', w'.ownsRow w.heap.size e 1 (.slice (some ⟨w.heap.size, 0, none⟩) n n) n (List.replicate n z) → New w w' → w'.heap.size = w.heap.size + 1 → wpList P ops Q rest (a.put o.dst (.slice (some ⟨w.heap.size, 0, none⟩) n n)) w') :
    wpList P ops Q (o :: rest) a w := by
  obtain ⟨ht, ⟨i, hi, hz0, hz1, hz2⟩, hzs⟩ := hE
  refine wpList_plain hgd fun K hK => ?_
  subst hL hC
  have h63' : (n : Int) ≤ 9223372036854775807 := by
    have h := b3
    simp [maxLen] at h
    omega
  have hb' : (i.bytes : Int) * (n : Int) ≤ 281474976710656 := by
    rw [hz2]
    have h : ((bytes * n : Nat) : Int) ≤ 281474976710656 := by omega
    rwa [Int.natCast_mul] at h
  have hr := run_make (P := P) w t e i z ht hi hz0 kl kc n n (by omega) (Int.le_refl _) hb' h63'
  simp only [Int.toNat_natCast, hz1, Nat.mul_one] at hr
  have ho1 := World.ownsRow_lit (e := e) (size := 1) w (madeCells z.cells n) n (Nat.le_refl _) b3 (by rw [size_madeCells, Nat.mul_one])
  rw [hz, toList_madeCells_one] at ho1
  rw [hz] at hr
  unfold Oper.wp
  simp [execOp, ho, hl, hc, hr, Result.andThen]
  exact hK _ _ (h _ ho1 ((Chg.refl _ w).alloc _) (by simp))
end Go.Mem

namespace Go.Proofs.Ytgofjkppeobjfaa
set_option linter.unusedVariables false
open Go.RowKit Go.Mem Go.Dig Go.Pure

theorem sameI_step {a b : List Int} {k : Nat} {x y : Int} (h : a.take k = b.take k) (hx : a[k]? = some x) (hy : b[k]? = some y) (e : x = y) : a.take (k + 1) = b.take (k + 1) := by
  rw [List.take_add_one, List.take_add_one, h, hx, hy, e]

set_option maxHeartbeats 1000000 in
theorem sameInts_any (A B : Option Addr) (n m c d : Nat) (la lb : List Int) (w : World) (ha : Rd w A n (is la)) (hb : Rd w B m (is lb)) (hn : n ≤ 9223372036854775807) (hm : m ≤ 9223372036854775807) :
    Calls Try.prog 18 #[.slice A n c, .slice B m d] w fun e w' => e = .returned (.bool (decide (la = lb))) ∧ ∃ m, w' = w.drewN m := by
  have hla : la.length = n := by have := ha.len; rwa [is_length] at this
  have hlb : lb.length = m := by have := hb.len; rwa [is_length] at this
  by_cases h : n = m
  · subst h
    have HA := Lib.hid hla
    have HB := Lib.hid hlb
    clear hla hlb
    go_enter Try.func18, Try.ntmps18
    go_wp2
    go_loopw [5] (fun i wr => ∃ k : Nat, k ≤ n ∧ i = .int .i64 k ∧ la.take k = lb.take k ∧ ∃ q, wr = w.drewN q) (fun i _ => n - (intOf i).toNat)
    case atStart => exact ⟨0, Nat.zero_le _, rfl, rfl, 0, rfl⟩
    case round =>
      obtain ⟨k, hk, rfl, htake, hnew⟩ := hrel
      have HT := Lib.hid htake
      obtain ⟨q, hq⟩ := hnew
      have hnew : New w wr := by rw [hq]; exact (Chg.refl _ w).drewN q
      have HQ := Lib.hid hq
      clear htake hq
      by_cases hlt : k < n
      · obtain ⟨ad, u, rfl, hu, hcu⟩ := (ha.new hnew).at_ hlt
        obtain ⟨bd, v, rfl, hv, hcv⟩ := (hb.new hnew).at_ hlt
        obtain ⟨x, hx, rfl⟩ := is_at hu
        obtain ⟨y, hy, rfl⟩ := is_at hv
        have HX := Lib.hid hx
        have HY := Lib.hid hy
        clear hu hv hx hy ha hb
        by_cases hxy : x = y
        · subst hxy
          go_wp2
          go_quiet (fail)
          go_wp2
          go_roundw
          case rel => exact ⟨k + 1, by omega, by go_num, sameI_step HT.out HX.out HY.out rfl, _, by rw [HQ.out, World.drewN_drewN]⟩
          case measure => simp [intOf]; omega
        · have hne : (x != y) = true := by simp [hxy]
          have e : la ≠ lb := fun e => by
            have h1 := HX.out
            rw [e, HY.out] at h1
            injection h1 with h1
            exact hxy h1.symm
          have HE : Hid (decide (la = lb) = false) := by show _ = _; simpa using e
          clear e
          go_wp2
          go_quiet (fail)
          go_wp2
          go_ret
          rw [HE.out]
          exact ⟨rfl, _, by rw [HQ.out, World.drewN_drewN]⟩
      · go_wp2
        go_ret
        have hk' : k = n := by omega
        subst hk'
        have e : la = lb := by
          have := HT.out
          rwa [List.take_of_length_le (by rw [HA.out]; omega), List.take_of_length_le (by rw [HB.out]; omega)] at this
        exact ⟨by simp [e], _, HQ.out⟩
  · have e : la ≠ lb := fun e => h (by rw [← hla, ← hlb, e])
    have hd : decide (la = lb) = false := by simpa using e
    have H := Lib.hid hd
    clear hla hlb hd
    go_enter Try.func18, Try.ntmps18
    go_wp2
    go_ret
    rw [H.out]
    exact ⟨by simp, 0, rfl⟩

/-- What Shuffle returns. -/
noncomputable def shufL (seed : Int) (n : Nat) : List Int := (List.range n).map (fun k => (placeN seed n k : Int))
theorem shufL_length (seed : Int) (n : Nat) : (shufL seed n).length = n := by simp [shufL]
noncomputable def shufTo (seed : Int) (n k : Nat) : List Int := (List.range k).map (fun k => (placeN seed n k : Int)) ++ List.replicate (n - k) 0
theorem shufTo_step (seed : Int) {n k : Nat} (h : k < n) : (shufTo seed n k).set k (placeN seed n k : Int) = shufTo seed n (k + 1) := by
  unfold shufTo
  rw [List.set_append_right _ _ (by simp), List.length_map, List.length_range, Nat.sub_self, List.range_succ, List.map_append, List.append_assoc]
  congr 1
  obtain ⟨m, hm⟩ : ∃ m, n - k = m + 1 := ⟨n - k - 1, by omega⟩
  rw [hm, show n - (k + 1) = m by omega, List.replicate_succ, List.set_cons_zero]
  rfl
theorem shufTo_all (seed : Int) (n : Nat) : shufTo seed n n = shufL seed n := by simp [shufTo, shufL]

set_option maxHeartbeats 1000000 in
theorem shuffle_any (seed : Int) (n : Nat) (h1 : 1 ≤ n) (h2 : n ≤ 1024) (w : World) :
    Calls Try.prog 16 #[.int .u64 seed, .int .i64 n] w fun e w' => ∃ A c, e = .returned (.tuple #[.slice A n c, .int .i64 0]) ∧ w'.ownsRow w.heap.size 3 1 (.slice A n c) n (is (shufL seed n)) ∧ New w w' := by
  have g1 : decide ((n : Int) < 1) = false := by simp; omega
  have g2 : decide ((1024 : Int) < (n : Int)) = false := by simp; omega
  go_enter Try.func16, Try.ntmps16
  go_wp2_with (at_make; refine wpList_mk elemInts rfl rfl _ _ rfl (n := n) rfl rfl rfl rfl (by omega) (by simp only [maxLen]; omega) ?_; intro w1 hown hg hz; have HO := Lib.hid (And.intro hown (And.intro hg hz)); clear hown hg hz)
  go_loopw [18] (fun i wr => ∃ k : Nat, k ≤ n ∧ i = .int .i64 k ∧ Hid (wr.ownsRow w.heap.size 3 1 (.slice (some ⟨w.heap.size, 0, none⟩) n n) n (is (shufTo seed n k)) ∧ New w wr)) (fun i _ => n - (intOf i).toNat)
  case atStart =>
    refine ⟨0, Nat.zero_le _, rfl, ?_, HO.out.2.1⟩
    have := HO.out.1
    rw [show List.replicate n (Value.int .i64 0) = is (shufTo seed n 0) by simp [shufTo, is]] at this
    exact this
  case round =>
    obtain ⟨k, hk, rfl, HR⟩ := hrel
    clear HO
    by_cases hlt : k < n
    · have HB : Hid (boundsI (n : Int) (k : Int) = 0) := boundsI_of (by omega) (by omega) (by omega) (by omega)
      go_wp2_with fail
      refine (place_any seed (n : Int) (k : Int) wr (by omega)).mono ?_
      rw [HB.out, if_pos rfl, Int.toNat_natCast, Int.toNat_natCast]
      rintro e w2 ⟨rfl, hn2⟩
      obtain ⟨ho, hnew⟩ := HR.out
      have ho2 := own_chg ho hn2 (fun _ _ h => h)
      obtain ⟨g, hg, hg1, hg2, hfz⟩ := own_form ho2 (by omega)
      have hgw : w.heap.size = g := by simpa using hg
      have hf := hfz k
      have hlk : k < (shufTo seed n k).length := by unfold shufTo; simp; omega
      have hcell := own_cell ho2 (i := k) (u := .int .i64 ((shufTo seed n k)[k])) (by unfold is; rw [List.getElem?_map, List.getElem?_eq_getElem hlk]; rfl)
      rw [← hgw] at hf
      generalize (shufTo seed n k)[k] = old at hcell
      have H2 := Lib.hid (And.intro ho2 (hnew.new hn2))
      obtain ⟨p, hp⟩ : ∃ p, placeN seed n k = p := ⟨_, rfl⟩
      rw [hp]
      have HP := Lib.hid hp
      have hsz := hg2
      rw [← hgw] at hsz
      clear ho hnew ho2 hg hg1 hg2 hfz hgw hp hn2 HR HB hlk
      go_wp2
      go_roundw
      case rel =>
        obtain ⟨ho2, hn2⟩ := H2.out
        refine ⟨k + 1, by omega, by go_num, ?_, ?_⟩
        · rw [← shufTo_step seed hlt, HP.out]
          have := own_set ho2 k (.int .i64 (p : Int)) hlt
          rw [show is ((shufTo seed n k).set k (p : Int)) = (is (shufTo seed n k)).set k (.int .i64 (p : Int)) by simp [is, List.map_set]]
          exact this
        · exact hn2.setCell (fun h => absurd h (by simp)) _
      case measure => simp [intOf]; omega
    · obtain rfl : n = k := by omega
      go_wp2
      go_ret2
      obtain ⟨ho, hn⟩ := HR.out
      rw [shufTo_all] at ho
      exact ⟨_, _, rfl, ho, hn⟩

set_option maxHeartbeats 1000000 in
theorem shuffle_bad (seed : Int) (n : Int) (h : n < 1 ∨ 1024 < n) (w : World) :
    Calls Try.prog 16 #[.int .u64 seed, .int .i64 n] w fun e w' => e = .returned (.tuple #[.slice none 0 0, .int .i64 1]) ∧ w = w' := by
  by_cases h1 : n < 1
  · clear h
    go_enter Try.func16, Try.ntmps16
    go_wp2
    go_ret2
    exact ⟨rfl, rfl⟩
  · have g1 : decide (n < 1) = false := by simp; omega
    have g2 : 1024 < n := by omega
    clear h
    go_enter Try.func16, Try.ntmps16
    go_wp2
    go_ret2
    exact ⟨rfl, rfl⟩

theorem flatInt : Flat Try.prog 3 := ⟨_, Try.underlying3, rfl⟩
theorem flatErr : Flat Try.prog 27 := ⟨_, Try.underlying27, rfl⟩
set_option maxHeartbeats 1000000 in
theorem parts_one (v : Value) (w : World) (hv : WI w v 1) :
    Calls Try.prog 20 #[v] w fun e w' => ∃ v', e = .returned (.tuple #[.int .i64 0, v', .bool true]) ∧ WI w' v' 1 ∧ New w w' := by
  obtain ⟨s, A, n, c, rfl, hs, hm⟩ := hv
  have H := Lib.hid (And.intro hs hm)
  clear hs hm
  go_enter Try.func20, Try.ntmps20
  go_wp2_with fail
  refine Calls.new2 ?_
  intro W hb1 hb2 hn hz
  refine (from_any 1 W (by omega) (by omega)).mono ?_
  rintro e w1 ⟨v1, rfl, ⟨s1, A1, n1, c1, rfl, hs1, hm1⟩, hn1⟩
  have hb3 := hb1.chg hn1 (fun h => h)
  have hb4 := hb2.chg hn1 (fun h => h)
  have hz1 : w.heap.size + 2 ≤ w1.heap.size := by have := hn1.size; omega
  obtain ⟨W2, hW2⟩ : ∃ W2, w1.alloc (.cells #[.bool s1, .slice A1 n1 c1] 37) = W2 := ⟨_, rfl⟩
  have hb5 : Blk W2 w1.heap.size 37 #[.bool s1, .slice A1 n1 c1] := by rw [← hW2]; exact Blk.new _ _ _
  have hn2 : New w1 W2 := by rw [← hW2]; exact (Chg.refl _ w1).alloc _
  have H1 := Lib.hid (And.intro (hb3.chg hn2 (fun h => h)) (And.intro (hb4.chg hn2 (fun h => h)) (And.intro hb5 (And.intro ((hn.new hn1).new hn2) (And.intro hs1 (hm1.new hn2))))))
  have HW2 := Lib.hid hW2
  clear hb1 hb2 hn hn1 hb3 hb4 hs1 hm1 hz hb5 hn2 hW2
  go_wp2_with fail
  go_loopw [6] (fun i wr => i = .int .i64 0 ∧ wr = W2) (fun i _ => 0)
  case atStart => exact ⟨rfl, HW2.out⟩
  case round =>
    obtain ⟨rfl, hwr⟩ := hrel
    clear HW2
    subst hwr
    obtain ⟨hb3, hb4, hb5, hn, hs1, hm1⟩ := H1.out
    have hc30 := hb3.cell 0 (u := .bool s) rfl
    have hc31 := hb3.cell 1 (u := .slice A n c) rfl
    have hc50 := hb5.cell 0 (u := .bool s1) rfl
    have hc51 := hb5.cell 1 (u := .slice A1 n1 c1) rfl
    clear hb3 hb4 hb5 hn hs1 hm1
    go_wp2_with fail
    obtain ⟨hb3, hb4, hb5, hn, hs1, hm1⟩ := H1.out
    refine (compare_any _ _ 1 1 wr (WI.new ⟨s, A, n, c, rfl, H.out⟩ hn) ⟨s1, A1, n1, c1, rfl, hs1, hm1⟩).mono ?_
    rintro e w3 ⟨rfl, hn3⟩
    rw [show cmpI 1 1 = 0 by decide]
    have hb6 := hb4.chg hn3 (fun h => h)
    have hb7 := hb5.chg hn3 (fun h => h)
    have hc60 := hb6.cell 0 (u := .bool false) rfl
    have hc61 := hb6.cell 1 (u := .slice none 0 0) rfl
    have hf60 := hb6.frozen 0
    have hf61 := hb6.frozen 1
    have hc70 := hb7.cell 0 (u := .bool s1) rfl
    have hc71 := hb7.cell 1 (u := .slice A1 n1 c1) rfl
    have H3 := Lib.hid (And.intro hb6 (And.intro (hn.new hn3) (And.intro hs1 (hm1.new hn3))))
    clear hb3 hb4 hb5 hn hn3 hs1 hm1 hb6 hb7 hc30 hc31 hc50 hc51 H1 H
    go_wp2_with fail
    go_region
    all_goals
      go_wp2
      obtain ⟨hb6, hn, hs1, hm1⟩ := H3.out
      refine bodyPost_ret (res_tct rfl _ rfl rfl (aggInt.load (Blk.drew (hb6.set2 _ _))) rfl) rfl ⟨_, rfl, ⟨s1, A1, n1, c1, rfl, hs1, ?_⟩, ?_⟩
      · exact hm1.store hb6 (noInt_two _ _ _ _) ((Chg.at2 _ _ _ _).drew)
      · exact Chg.owned hn (Chg.at2 _ _ _ _).drew (fun k e => by omega)

set_option maxHeartbeats 1000000 in
theorem big_one (seed : Int) (lab : ByteArray) (i : Int) (v : Value) (w : World) (hv : WI w v 1) :
    Calls Try.prog 12 #[.int .u64 seed, .string lab, .int .i64 i, v] w fun e w' => e = .returned (.tuple #[.agg #[.bool false, .slice none 0 0], .int .i64 i, .int .i64 0]) ∧ New w w' := by
  obtain ⟨s, A, n, c, rfl, hs, hm⟩ := hv
  have H := Lib.hid (And.intro hs hm)
  clear hs hm
  go_enter Try.func12, Try.ntmps12
  go_wp2_with fail
  refine Calls.new4 ?_
  intro W hb1 hb2 hb3 hb4 hn hz
  have hwi : WI W (.agg #[.bool s, .slice A n c]) 1 := WI.new ⟨s, A, n, c, rfl, H.out⟩ hn
  refine (sign_any _ 1 W hwi).mono ?_
  rintro e w1 ⟨rfl, hn1⟩
  rw [show cmpI 1 0 = 1 by decide]
  have hc := hb1.chg hn1 (fun h => h)
  have hc0 := hc.cell 0 rfl
  have hc1 := hc.cell 1 rfl
  have H1 := Lib.hid (And.intro hb2 (And.intro hb3 (And.intro hb4 (And.intro hn (And.intro hn1 (hwi.new hn1))))))
  have hz1 : w.heap.size + 4 ≤ w1.heap.size := by have := hn1.size; omega
  clear hb1 hb2 hb3 hb4 hn hn1 hwi hc hz H
  go_wp2_with fail
  refine (parts_one _ w1 H1.out.2.2.2.2.2).mono ?_
  rintro e w2 ⟨v2, rfl, ⟨s2, A2, n2, c2, rfl, hs2, hm2⟩, hn2⟩
  obtain ⟨hb2, hb3, hb4, hn, hn1, _⟩ := H1.out
  have hd2 := (hb2.chg hn1 (fun h => h)).chg hn2 (fun h => h)
  have hd3 := (hb3.chg hn1 (fun h => h)).chg hn2 (fun h => h)
  have hd4 := (hb4.chg hn1 (fun h => h)).chg hn2 (fun h => h)
  have hcA := hd2.cell 0 (u := .bool false) rfl
  have hcB := hd2.cell 1 (u := .slice none 0 0) rfl
  have hcC := hd3.cell 0 (u := .int .i64 0) rfl
  have hcD := hd4.cell 0 (u := .int .i64 0) rfl
  have hl0 : w.heap.size < w2.heap.size := by have := hd2.lt; omega
  have hlA := hd2.lt
  have hlC := hd3.lt
  have hlD := hd4.lt
  have hfA := hd2.frozen 0
  have hfB := hd2.frozen 1
  have hfC := hd3.frozen 0
  have hfD := hd4.frozen 0
  have hz2 : w.heap.size + 4 ≤ w2.heap.size := by have := hn2.size; omega
  have H2 := Lib.hid (And.intro hd2 (And.intro hd3 (And.intro hd4 ((hn.new hn1).new hn2))))
  clear hb2 hb3 hb4 hn hn1 hs2 hm2 hn2 hd2 hd3 hd4 H1 hc0 hc1 hz1
  go_wp2_with fail
  obtain ⟨hd2, hd3, hd4, hn⟩ := H2.out
  have k2 := ((((hd2.set2 (.bool false) (.slice none 0 0)).far (p := ⟨w.heap.size + 1 + 1, 0, none⟩) (by dsimp only; omega) (.int .i64 i)).far (p := ⟨w.heap.size + 1 + 1 + 1, 0, none⟩) (by dsimp only; omega) (.int .i64 0)).alloc (.cells #[.int .i64 0] 3)).alloc (.cells #[.bool s2, .slice A2 n2 c2] 37)
  have k3 := (((((hd3.far (p := ⟨w.heap.size + 1, 0, none⟩) (by dsimp only; omega) (.bool false)).far (p := ⟨w.heap.size + 1, 1, none⟩) (by dsimp only; omega) (.slice none 0 0)).set1 (.int .i64 i)).far (p := ⟨w.heap.size + 1 + 1 + 1, 0, none⟩) (by dsimp only; omega) (.int .i64 0)).alloc (.cells #[.int .i64 0] 3)).alloc (.cells #[.bool s2, .slice A2 n2 c2] 37)
  have k4 := (((((hd4.far (p := ⟨w.heap.size + 1, 0, none⟩) (by dsimp only; omega) (.bool false)).far (p := ⟨w.heap.size + 1, 1, none⟩) (by dsimp only; omega) (.slice none 0 0)).far (p := ⟨w.heap.size + 1 + 1, 0, none⟩) (by dsimp only; omega) (.int .i64 i)).set1 (.int .i64 0)).alloc (.cells #[.int .i64 0] 3)).alloc (.cells #[.bool s2, .slice A2 n2 c2] 37)
  refine bodyPost_ret (res_ccc rfl _ rfl (aggInt.load k2) rfl (flatInt.load k3) rfl (flatErr.load k4)) rfl ⟨rfl, ?_⟩
  exact (((((hn.setCell (fun h => absurd h (by simp)) _).setCell (fun h => absurd h (by simp)) _).setCell (fun h => absurd h (by simp; omega)) _).setCell (fun h => absurd h (by simp; omega)) _).alloc _).alloc _

theorem below_one (seed : Int) (s : ByteArray) (hs : s.size ≤ 1000000) (i : Int) (hi : 0 ≤ i ∧ i ≤ 1000000000) (w : World) :
    Calls Try.prog 11 #[.int .u64 seed, .string s, .int .i64 i, .int .i64 1] w fun e w' => e = .returned (.tuple #[.int .i64 0, .int .i64 (i + 1)]) ∧ New w w' := by
  refine (below_any seed s hs i hi 1 (by omega) (by omega) w).mono ?_
  rintro e w1 ⟨rfl, hn⟩
  have ht : takenN seed s.data.toList i 1 = 0 := taken_eq (by omega) (fun j hj => by omega) (.inl (.inl (by unfold overN; omega)))
  rw [ht]
  refine ⟨?_, hn⟩
  rw [show ((1 : Nat) : Int) = 1 from rfl, Int.emod_one, show i + ((0 : Nat) : Int) + 1 = i + 1 by omega]
theorem pick3 (seed : Int) (lab : List UInt8) (i : Int) : ∃ q, pickR seed lab i [0, 3, 0] = (1, q, 0) := by
  have hg : goodW [0, 3, 0] := by intro w hw; simp at hw; omega
  have hb : ¬ pickBad [0, 3, 0] := by
    intro h
    rcases h with h | h | h | h
    · simp at h
    · simp at h
    · exact h hg
    · simp at h
  obtain ⟨r, hr⟩ : ∃ r, wordI seed lab (i + (takenN seed lab i 3 : Nat)) % ((3 : Nat) : Int) = r := ⟨_, rfl⟩
  have h0 : 0 ≤ r := by rw [← hr]; exact Int.emod_nonneg _ (by omega)
  have h3 : r < 3 := by rw [← hr]; exact Int.emod_lt_of_pos _ (by omega)
  have hk : seek [0, 3, 0] r 0 = some 1 := by
    rw [seek, if_neg (by omega), seek, if_pos (by omega)]
  exact ⟨_, pickR_ok hb (S := 3) (by simp) rfl hr hk⟩
theorem shuf1 (seed : Int) : shufL seed 1 = [0] := by
  have := place_lt seed (n := 1) (k := 0) (by omega) (by omega)
  unfold shufL
  simp
  omega

set_option maxRecDepth 100000 in
set_option maxHeartbeats 2000000 in
theorem lives_any (w : World) : Calls Try.prog 9 #[] w fun e w' => e = .returned (.bool true) ∧ New w w' := by
  go_enter Try.func9, Try.ntmps9
  go_wp2_with fail
  refine (below_one 1 ⟨#[120]⟩ (by decide) 5 (by omega) w).mono ?_
  rintro e w1 ⟨rfl, hn1⟩
  rw [show (5 : Int) + 1 = 6 by decide]
  have H1 := Lib.hid hn1
  clear hn1
  go_wp2_with fail
  refine (from_any 1 w1 (by omega) (by omega)).mono ?_
  rintro e w2 ⟨v2, rfl, ⟨s2, A2, n2, c2, rfl, hs2, hm2⟩, hn2⟩
  have H2 := Lib.hid (And.intro hs2 (And.intro hm2 (H1.out.new hn2)))
  clear hs2 hm2 hn2 H1
  go_wp2_with fail
  refine (big_one 1 ⟨#[120]⟩ 5 _ w2 ⟨s2, A2, n2, c2, rfl, H2.out.1, H2.out.2.1⟩).mono ?_
  rintro e w3 ⟨rfl, hn3⟩
  have H3 := Lib.hid (H2.out.2.2.new hn3)
  clear hn3 H2
  go_wp2_with fail
  refine Calls.new2 ?_
  intro W4 hb1 hb2 hn4 hz4
  obtain ⟨q, hq⟩ := pick3 1 (ByteArray.mk #[120]).data.toList 5
  have hr4 : Rd W4 (some ⟨w3.heap.size + 1, 0, none⟩) 3 (is [0, 3, 0]) := ⟨rfl, fun _ => ⟨_, rfl, fun j u hu => by rw [Addr.add_lit, Nat.zero_add]; exact hb2.cell j (by simpa [is] using hu)⟩⟩
  refine (pick_any 1 ⟨#[120]⟩ (by decide) 5 (by omega) _ 3 3 [0, 3, 0] W4 hr4 (by omega)).mono ?_
  rw [hq]
  rintro e w5 ⟨rfl, hn5⟩
  have hb6 := hb1.chg hn5 (fun h => h)
  have H5 := Lib.hid (And.intro hb6 (H3.out.new (hn4.new hn5)))
  clear hb1 hb2 hn4 hz4 hq hr4 hn5 hb6 H3
  go_wp2_with fail
  refine (shuffle_any 9 1 (by omega) (by omega) w5).mono ?_
  rintro e w6 ⟨A6, c6, rfl, ho6, hn6⟩
  rw [shuf1] at ho6
  obtain ⟨hb5, hn5⟩ := H5.out
  have hb6 := hb5.chg hn6 (fun h => h)
  have hc0 := hb6.cell 0 (u := .bool false) rfl
  have hc1 := hb6.cell 1 (u := .slice none 0 0) rfl
  have H6 := Lib.hid (And.intro (hn5.new hn6) ho6)
  clear hb5 hn5 hn6 ho6 H5 hb6
  go_wp2_with fail
  refine (sign_any _ 0 w6 (WI.zero _)).mono ?_
  rintro e w7 ⟨rfl, hn7⟩
  rw [show cmpI 0 0 = 0 by decide]
  have H7 := Lib.hid (And.intro (H6.out.1.new hn7) (own_chg H6.out.2 hn7 (fun _ _ h => h)))
  clear hn7 H6 hc0 hc1
  go_wp2_with fail
  have hr8 : Rd (w7.alloc (.cells #[.int .i64 0] 3)) (some ⟨w7.heap.size, 0, none⟩) 1 (is [0]) := Rd.lit (is [0]) rfl
  refine (sameInts_any A6 _ 1 1 c6 1 [0] [0] _ ((Rd.of_own H7.out.2).new ((Chg.refl _ _).alloc _)) hr8 (by omega) (by omega)).mono ?_
  rintro e w8 ⟨rfl, q8, hq8⟩
  rw [show decide (([0] : List Int) = [0]) = true by simp]
  have H8 := Lib.hid (show New w w8 by rw [hq8]; exact (H7.out.1.alloc _).drewN q8)
  clear hr8 hq8
  go_wp2
  go_ret
  exact ⟨rfl, H8.out⟩
end Go.Proofs.Ytgofjkppeobjfaa

namespace Go.Proofs.Ytgofjkppeobjfaa
set_option linter.unusedVariables false
open Go.RowKit Go.Mem Go.Dig

/-- trim of digits: an amount. -/
theorem trim_wm (A : Option Addr) (n c : Nat) (l : List Nat) (w : World) (hr : Rd w A n (nv .u32 l)) (hd : Digs 4294967296 l) (hnc : n ≤ c) (hc : c ≤ 9223372036854775807) :
    Calls Try.prog 39 #[.slice A n c] w fun e w' => ∃ T, e = .returned (.slice A T c) ∧ Hid (WM w A T c (val 4294967296 l) ∧ T ≤ n) ∧ w = w' := by
  refine (trim_any A n c l w hr hnc hc).mono ?_
  rintro e w' ⟨rfl, rfl⟩
  have hll : l.length = n := by have := hr.len; rwa [nv_length] at this
  have hlen := trim_len l
  refine ⟨_, rfl, ⟨⟨Dig.trim l, ?_, by omega, hc, Num.of_trim hd⟩, by omega⟩, rfl⟩
  have := hr.take (k := (Dig.trim l).length) (by omega)
  rwa [nv_take, ← trim_take] at this

set_option maxRecDepth 100000 in
set_option maxHeartbeats 4000000 in
theorem mulMag_any (A : Option Addr) (n c : Nat) (A' : Option Addr) (n' c' : Nat) (x y : Nat) (w : World) (hx : WM w A n c x) (hy : WM w A' n' c' y) (hn : n ≤ 1000000) (hn' : n' ≤ 1000000) :
    Calls Try.prog 60 #[.slice A n c, .slice A' n' c'] w fun e w' => ∃ R m d, e = .returned (.slice R m d) ∧ Hid (WM w' R m d (x * y) ∧ (∀ k, blk R = some k → w.heap.size ≤ k) ∧ New w w') := by
  obtain ⟨la, ha, hc1, hc2, hNa⟩ := hx
  obtain ⟨lb, hb, hd1, hd2, hNb⟩ := hy
  have hla : la.length = n := by have := ha.len; rwa [nv_length] at this
  have hlb : lb.length = n' := by have := hb.len; rwa [nv_length] at this
  have H0 := Lib.hid (And.intro ha (And.intro hb (And.intro hNa (And.intro hNb (And.intro hla hlb)))))
  clear ha hb hNa hNb hla hlb
  go_enter Try.func60, Try.ntmps60
  go_wp2_with (at_make; refine wpList_mk elemU32 rfl rfl _ _ rfl (n := n + n') rfl rfl (by omega) (by omega) (by omega) (by simp only [maxLen]; omega) ?_; intro w1 hown hg hz; have HMK := Lib.hid (And.intro hown (And.intro hg hz)); clear hown hg hz)
  obtain ⟨ho, hnw, hz⟩ := HMK.out
  rw [show List.replicate (n + n') (Value.int .u32 0) = nv .u32 (List.replicate (n + n') 0) by simp [nv]] at ho
  obtain ⟨g, hgq⟩ : ∃ g, w.heap.size = g := ⟨_, rfl⟩
  rw [hgq] at ho
  have HG := Lib.hid hgq
  have HW := Lib.hid (And.intro hnw ho)
  simp only [hgq]
  clear hgq hnw ho hz HMK
  go_loopw [19] (fun i wr => ∃ k : Nat, ∃ o, i = .int .i64 k ∧ k ≤ n ∧ Hid (MulI 4294967296 la lb k 0 o 0 ∧ wr.ownsRow g 61 1 (.slice (some ⟨g, 0, none⟩) (n + n') (n + n')) (n + n') (nv .u32 o) ∧ Chg (fun j => j = g) w1 wr)) (fun i _ => n - (intOf i).toNat)
  case atStart =>
    obtain ⟨ha, hb, hNa, hNb, hla, hlb⟩ := H0.out
    refine ⟨0, List.replicate (n + n') 0, rfl, by omega, ?_, HW.out.2, Chg.refl _ _⟩
    have := MulI.start (B := 4294967296) (by omega) la lb
    rwa [hla, hlb] at this
  case round =>
    obtain ⟨i, o, rfl, hi, HO⟩ := hrel
    by_cases hlt : i < n
    · obtain ⟨ha, hb, hNa, hNb, hla, hlb⟩ := H0.out
      have hchg : Chg (fun j => j = g) w wr := (HW.out.1.mono (fun _ _ h => h.elim)).trans HO.out.2.2 (fun _ _ h => h)
      obtain ⟨ad, u, rfl, hu, hcu⟩ := (ha.chg hchg (fun k _ h e => by have := HG.out; omega)).at_ hlt
      obtain ⟨p, hp, rfl⟩ := nv_at hu
      have hpb := hNa.digs.at_ hp
      have HP := Lib.hid hp
      clear ha hb hNa hNb hla hlb hchg hu hp
      go_wp2_with fail
      go_loopw [8, 26] (fun u v wr => ∃ k cr : Nat, ∃ o, u = .int .u64 cr ∧ v = .int .i64 k ∧ k ≤ n' ∧ cr < 4294967296 ∧ Hid (MulI 4294967296 la lb i k o cr ∧ wr.ownsRow g 61 1 (.slice (some ⟨g, 0, none⟩) (n + n') (n + n')) (n + n') (nv .u32 o) ∧ Chg (fun j => j = g) w1 wr)) (fun _ v _ => n' - (intOf v).toNat)
      case atStart => exact ⟨0, 0, o, rfl, rfl, by omega, by omega, HO.out⟩
      case round =>
        obtain ⟨wo, rfl⟩ : ∃ wo : World, wo = wr := ⟨_, rfl⟩
        obtain ⟨k, cr, o, rfl, rfl, hk, hcr, HI⟩ := hrel
        by_cases hlk : k < n'
        · obtain ⟨ha, hb, hNa, hNb, hla, hlb⟩ := H0.out
          have hchg : Chg (fun j => j = g) w wo := (HW.out.1.mono (fun _ _ h => h.elim)).trans HI.out.2.2 (fun _ _ h => h)
          obtain ⟨bd, v, rfl, hv, hcv⟩ := (hb.chg hchg (fun k _ h e => by have := HG.out; omega)).at_ hlk
          obtain ⟨r, hr, rfl⟩ := nv_at hv
          have hol : o.length = n + n' := by rw [HI.out.1.len, hla, hlb]
          obtain ⟨d, hd⟩ : ∃ d, o[i + k]? = some d := ⟨_, List.getElem?_eq_getElem (by omega)⟩
          have hcd := own_cell HI.out.2.1 (i := i + k) (u := .int .u32 (d : Nat)) (by rw [nv, List.getElem?_map, hd]; rfl)
          have hdb := HI.out.1.digs.at_ hd
          have hrb := hNb.digs.at_ hr
          have hst := HI.out.1.step (by omega) hNa.digs hNb.digs (by omega) hd
          rw [dg_some HP.out, dg_some hr] at hst
          obtain ⟨gg, hgg, _, hgs, hfz⟩ := own_form HI.out.2.1 (by omega)
          have hgg' : g = gg := by simpa using hgg
          subst hgg'
          have hf := hfz (i + k)
          obtain ⟨m, hm⟩ : ∃ m, p * r = m := ⟨_, rfl⟩
          have hmb : m ≤ 18446744065119617025 := by
            rw [← hm]
            exact Nat.le_trans (Nat.mul_le_mul (show p ≤ 4294967295 by omega) (show r ≤ 4294967295 by omega)) (by decide)
          have hmi : (p : Int) * (r : Int) = (m : Int) := by rw [← hm]; simp
          rw [hm] at hst
          obtain ⟨v, hv⟩ : ∃ v, d + m + cr = v := ⟨_, rfl⟩
          rw [hv] at hst
          have hvi : (cr : Int) + ((m : Int) + (d : Int)) = (v : Int) := by omega
          have hvb : v ≤ 18446744073709551615 := by omega
          have HS := Lib.hid hst
          have hik : (i : Int) + (k : Int) < (n : Int) + (n' : Int) := by omega
          clear ha hb hNa hNb hla hlb hchg hr hol hd hst hgg hfz hm
          go_wp2
          go_roundw
          case rel =>
            have ho3 := own_set HI.out.2.1 (i + k) (.int .u32 ((v % 4294967296 : Nat) : Int)) (by omega)
            rw [nv_set] at ho3
            refine ⟨k + 1, v / 4294967296, o.set (i + k) (v % 4294967296), congrArg (Value.int .u64) (by omega), by go_num, by omega, HS.out.1, HS.out.2, ?_, ?_⟩
            · rw [show ((v : Int) % 4294967296) = ((v % 4294967296 : Nat) : Int) by omega]; exact ho3
            · exact HI.out.2.2.setCell (fun _ => rfl) _
          case measure => simp [intOf]; omega
        · obtain rfl : n' = k := by omega
          obtain ⟨ha, hb, hNa, hNb, hla, hlb⟩ := H0.out
          have hol : o.length = n + n' := by rw [HI.out.1.len, hla, hlb]
          obtain ⟨d, hd⟩ : ∃ d, o[i + n']? = some d := ⟨_, List.getElem?_eq_getElem (by omega)⟩
          have hcd := own_cell HI.out.2.1 (i := i + n') (u := .int .u32 (d : Nat)) (by rw [nv, List.getElem?_map, hd]; rfl)
          obtain ⟨gg, hgg, _, hgs, hfz⟩ := own_form HI.out.2.1 (by omega)
          have hgg' : g = gg := by simpa using hgg
          subst hgg'
          have hf := hfz (i + n')
          have hrow : MulI 4294967296 la lb (i + 1) 0 (o.set (i + n') cr) 0 := by
            have := HI.out.1
            rw [← hlb] at this ⊢
            exact this.row (by omega) (by omega)
          have HS := Lib.hid hrow
          have hik : (i : Int) + (n' : Int) < (n : Int) + (n' : Int) := by omega
          clear ha hb hNa hNb hla hlb hol hd hrow hgg hfz
          go_wp2
          go_roundw
          case rel =>
            have ho3 := own_set HI.out.2.1 (i + n') (.int .u32 (cr : Int)) (by omega)
            rw [nv_set] at ho3
            refine ⟨i + 1, o.set (i + n') cr, by go_num, by omega, HS.out, ho3, ?_⟩
            exact HI.out.2.2.setCell (fun _ => rfl) _
          case measure => simp [intOf]; omega
    · obtain rfl : n = i := by omega
      go_wp2_with fail
      obtain ⟨ha, hb, hNa, hNb, hla, hlb⟩ := H0.out
      have hval : val 4294967296 o = x * y := by
        have := HO.out.1
        rw [← hla] at this
        rw [this.done (i := 0) (c := 0), hNa.val, hNb.val]
      have hn1 : New w wr := HW.out.1.trans HO.out.2.2 (fun j hj e => by have := HG.out; omega)
      refine (trim_wm _ (n + n') (n + n') o wr (Rd.of_own HO.out.2.1) HO.out.1.digs (Nat.le_refl _) (by omega)).mono ?_
      rintro e w2 ⟨T, rfl, HT, rfl⟩
      have HF := Lib.hid (And.intro hval hn1)
      clear ha hb hNa hNb hla hlb hval hn1
      go_wp2
      go_ret
      obtain ⟨hval, hn1⟩ := HF.out
      have hT := HT.out.1
      rw [hval] at hT
      exact ⟨_, _, _, rfl, hT, fun k hk => by have := HG.out; simp [blk] at hk; omega, hn1⟩
end Go.Proofs.Ytgofjkppeobjfaa
