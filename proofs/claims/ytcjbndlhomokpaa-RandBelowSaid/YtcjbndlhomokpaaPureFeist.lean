/- A permutation in rounds, its inverse, and what first return to a range leads to. No program is named here. -/
import Derived.WalkKit
namespace Go.Pure

/-! ### some place comes again -/
theorem pigeon : ∀ (M : Nat) (g : Nat → Nat), (∀ i, i ≤ M → g i < M) → ∃ i j, i < j ∧ j ≤ M ∧ g i = g j := by
  intro M
  induction M with
  | zero => intro g h; exact absurd (h 0 (Nat.le_refl _)) (by omega)
  | succ M ih =>
    intro g h
    by_cases hx : ∃ i, i ≤ M ∧ g i = g (M + 1)
    · obtain ⟨i, hi, he⟩ := hx
      exact ⟨i, M + 1, by omega, Nat.le_refl _, he⟩
    · have hne : ∀ i, i ≤ M → g i ≠ g (M + 1) := fun i hi he => hx ⟨i, hi, he⟩
      obtain ⟨i, j, h1, h2, h3⟩ := ih (fun i => if g i = M then g (M + 1) else g i) (fun i hi => by
        have a := h i (by omega)
        have b := h (M + 1) (Nat.le_refl _)
        have c := hne i hi
        show (if g i = M then g (M + 1) else g i) < M
        split <;> omega)
      refine ⟨i, j, h1, by omega, ?_⟩
      have ci := hne i (by omega)
      have cj := hne j (by omega)
      split at h3 <;> split at h3 <;> omega

/-- f, t times. -/
def iter (f : Nat → Nat) : Nat → Nat → Nat
  | 0, x => x
  | t + 1, x => iter f t (f x)
theorem iter_succ (f : Nat → Nat) (t x : Nat) : iter f (t + 1) x = f (iter f t x) := by
  induction t generalizing x with
  | zero => rfl
  | succ t ih => exact ih (f x)
theorem iter_add (f : Nat → Nat) (s t x : Nat) : iter f (s + t) x = iter f s (iter f t x) := by
  induction t generalizing x with
  | zero => rfl
  | succ t ih => exact ih (f x)
theorem iter_lt {f : Nat → Nat} {M : Nat} (hf : ∀ x, x < M → f x < M) (t : Nat) : ∀ x, x < M → iter f t x < M := by
  induction t with
  | zero => intro x h; exact h
  | succ t ih => intro x h; exact ih _ (hf x h)
/-- f and b undo each other below M. -/
structure Perm (f b : Nat → Nat) (M : Nat) : Prop where
  fl : ∀ x, x < M → f x < M
  bl : ∀ x, x < M → b x < M
  bf : ∀ x, x < M → b (f x) = x
  fb : ∀ x, x < M → f (b x) = x
theorem Perm.symm {f b : Nat → Nat} {M : Nat} (h : Perm f b M) : Perm b f M := ⟨h.bl, h.fl, h.fb, h.bf⟩
theorem Perm.undo {f b : Nat → Nat} {M : Nat} (h : Perm f b M) (t : Nat) : ∀ x, x < M → iter b t (iter f t x) = x := by
  induction t with
  | zero => intro x _; rfl
  | succ t ih =>
    intro x hx
    rw [iter_succ f]
    show iter b t (b (f (iter f t x))) = x
    rw [h.bf _ (iter_lt h.fl t x hx), ih x hx]
theorem Perm.again {f b : Nat → Nat} {M : Nat} (h : Perm f b M) {x : Nat} (hx : x < M) : ∃ t, iter f (t + 1) x = x := by
  obtain ⟨i, j, hij, _, he⟩ := pigeon M (fun i => iter f i x) (fun i _ => iter_lt h.fl i x hx)
  refine ⟨j - i - 1, ?_⟩
  have e : j = i + (j - i - 1 + 1) := by omega
  rw [e, iter_add] at he
  have h1 := h.undo i _ (iter_lt h.fl (j - i - 1 + 1) x hx)
  rw [← he, h.undo i x hx] at h1
  exact h1.symm
/-- The least number with a property. -/
theorem least {P : Nat → Prop} (h : ∃ t, P t) : ∃ t, P t ∧ ∀ s, s < t → ¬ P s := by
  obtain ⟨t, ht⟩ := h
  induction t using Nat.strongRecOn with
  | ind t ih =>
    by_cases hs : ∃ s, s < t ∧ P s
    · obtain ⟨s, h1, h2⟩ := hs
      exact ih s h1 h2
    · exact ⟨t, ht, fun s h1 h2 => hs ⟨s, h1, h2⟩⟩
open Classical in
/-- How many steps to the range below n. -/
noncomputable def dist (f : Nat → Nat) (n x : Nat) : Nat := if h : ∃ t, iter f t x < n then (least h).choose else 0
theorem dist_spec {f : Nat → Nat} {n x : Nat} (h : ∃ t, iter f t x < n) : iter f (dist f n x) x < n ∧ ∀ s, s < dist f n x → ¬ iter f s x < n := by
  unfold dist
  rw [dif_pos h]
  exact (least h).choose_spec
/-- One step nearer. -/
theorem dist_step {f : Nat → Nat} {n x : Nat} (h : ∃ t, iter f t x < n) (hx : ¬ x < n) : dist f n x = dist f n (f x) + 1 ∧ ∃ t, iter f t (f x) < n := by
  obtain ⟨h1, h2⟩ := dist_spec h
  have h0 : dist f n x ≠ 0 := fun e => by rw [e] at h1; exact hx h1
  obtain ⟨d, hd⟩ : ∃ d, dist f n x = d + 1 := ⟨dist f n x - 1, by omega⟩
  rw [hd] at h1 h2
  have hex : ∃ t, iter f t (f x) < n := ⟨d, h1⟩
  obtain ⟨h3, h4⟩ := dist_spec hex
  have ha : ¬ d < dist f n (f x) := fun hl => h4 d hl h1
  have hb : ¬ dist f n (f x) < d := fun hl => h2 (dist f n (f x) + 1) (by omega) h3
  exact ⟨by omega, hex⟩
/-- Where the walk from x (one step at least) first comes below n. -/
noncomputable def land (f : Nat → Nat) (n x : Nat) : Nat := iter f (dist f n (f x)) (f x)
theorem land_ex {f b : Nat → Nat} {M n x : Nat} (h : Perm f b M) (hn : n ≤ M) (hx : x < n) : ∃ t, iter f t (f x) < n := by
  obtain ⟨t, ht⟩ := h.again (x := x) (by omega)
  exact ⟨t, by have : iter f t (f x) = x := ht; omega⟩
theorem land_lt {f b : Nat → Nat} {M n x : Nat} (h : Perm f b M) (hn : n ≤ M) (hx : x < n) : land f n x < n := (dist_spec (land_ex h hn hx)).1
/-- The walk back leads back. -/
theorem land_back {f b : Nat → Nat} {M n x : Nat} (h : Perm f b M) (hn : n ≤ M) (hx : x < n) : land b n (land f n x) = x := by
  have hl := land_lt h hn hx
  obtain ⟨h1, h2⟩ := dist_spec (land_ex h hn hx)
  have hM : x < M := by omega
  -- the way forth has d + 1 steps
  have hway : land f n x = iter f (dist f n (f x) + 1) x := rfl
  have hbk : ∀ s, s ≤ dist f n (f x) + 1 → iter b s (land f n x) = iter f (dist f n (f x) + 1 - s) x := by
    intro s hs
    rw [hway]
    have e : dist f n (f x) + 1 = s + (dist f n (f x) + 1 - s) := by omega
    conv => lhs; rw [e, iter_add]
    exact h.undo s _ (iter_lt h.fl _ x hM)
  obtain ⟨h3, h4⟩ := dist_spec (land_ex h.symm hn hl)
  have hB : ∀ s, iter b s (b (land f n x)) = iter b (s + 1) (land f n x) := fun s => rfl
  have hd : iter b (dist f n (f x)) (b (land f n x)) = x := by
    rw [hB, hbk _ (Nat.le_refl _), Nat.sub_self]
    rfl
  have ha : ¬ dist f n (f x) < dist b n (b (land f n x)) := fun hlt => h4 _ hlt (by rw [hd]; exact hx)
  have hb : ¬ dist b n (b (land f n x)) < dist f n (f x) := fun hlt => by
    rw [hB, hbk _ (by omega)] at h3
    have e : dist f n (f x) + 1 - (dist b n (b (land f n x)) + 1) = (dist f n (f x) - dist b n (b (land f n x)) - 1) + 1 := by omega
    rw [e] at h3
    exact h2 _ (by omega) h3
  have e : dist b n (b (land f n x)) = dist f n (f x) := by omega
  unfold land at hd ⊢
  rw [show dist b n (b (iter f (dist f n (f x)) (f x))) = dist f n (f x) from e]
  exact hd

/-! ### the rounds -/
def fwd (p : Nat → Nat → Nat) : Nat → Nat × Nat → Nat × Nat
  | 0, x => x
  | i + 1, x => let y := fwd p i x; (y.2, y.1 ^^^ p i y.2)
def bwd (p : Nat → Nat → Nat) : Nat → Nat × Nat → Nat × Nat
  | 0, x => x
  | i + 1, x => bwd p i (x.2 ^^^ p i x.1, x.1)
theorem xor_xor (a b : Nat) : (a ^^^ b) ^^^ b = a := by rw [Nat.xor_assoc, Nat.xor_self, Nat.xor_zero]
theorem bwd_fwd (p : Nat → Nat → Nat) (i : Nat) : ∀ x, bwd p i (fwd p i x) = x := by
  induction i with
  | zero => intro x; rfl
  | succ i ih =>
    intro x
    show bwd p i ((fwd p i x).1 ^^^ p i (fwd p i x).2 ^^^ p i (fwd p i x).2, (fwd p i x).2) = x
    rw [xor_xor]
    exact ih x
theorem fwd_bwd (p : Nat → Nat → Nat) (i : Nat) : ∀ x, fwd p i (bwd p i x) = x := by
  induction i with
  | zero => intro x; rfl
  | succ i ih =>
    intro x
    show ((fwd p i (bwd p i (x.2 ^^^ p i x.1, x.1))).2, (fwd p i (bwd p i (x.2 ^^^ p i x.1, x.1))).1 ^^^ p i (fwd p i (bwd p i (x.2 ^^^ p i x.1, x.1))).2) = x
    rw [ih]
    simp only [xor_xor]
theorem fwd_lt {p : Nat → Nat → Nat} {h : Nat} (hp : ∀ i r, p i r < 2 ^ h) (i : Nat) : ∀ x : Nat × Nat, x.1 < 2 ^ h → x.2 < 2 ^ h → (fwd p i x).1 < 2 ^ h ∧ (fwd p i x).2 < 2 ^ h := by
  induction i with
  | zero => intro x h1 h2; exact ⟨h1, h2⟩
  | succ i ih => intro x h1 h2; have := ih x h1 h2; exact ⟨this.2, Nat.xor_lt_two_pow this.1 (hp _ _)⟩
theorem bwd_lt {p : Nat → Nat → Nat} {h : Nat} (hp : ∀ i r, p i r < 2 ^ h) (i : Nat) : ∀ x : Nat × Nat, x.1 < 2 ^ h → x.2 < 2 ^ h → (bwd p i x).1 < 2 ^ h ∧ (bwd p i x).2 < 2 ^ h := by
  induction i with
  | zero => intro x h1 h2; exact ⟨h1, h2⟩
  | succ i ih => intro x h1 h2; exact ih _ (Nat.xor_lt_two_pow h2 (hp _ _)) h1
def halves (h k : Nat) : Nat × Nat := (k / 2 ^ h, k % 2 ^ h)
def joinH (h : Nat) (x : Nat × Nat) : Nat := x.1 * 2 ^ h + x.2
def forthN (p : Nat → Nat → Nat) (h k : Nat) : Nat := joinH h (fwd p 4 (halves h k))
def backN (p : Nat → Nat → Nat) (h k : Nat) : Nat := joinH h (bwd p 4 (halves h k))
theorem joinH_halves (h k : Nat) : joinH h (halves h k) = k := by
  unfold joinH halves
  rw [Nat.mul_comm]
  exact Nat.div_add_mod k (2 ^ h)
theorem halves_joinH {h : Nat} {x : Nat × Nat} (hx : x.2 < 2 ^ h) : halves h (joinH h x) = x := by
  unfold joinH halves
  have h0 : 0 < 2 ^ h := Nat.pow_pos (by omega)
  rw [Nat.mul_comm, Nat.mul_add_div h0, Nat.div_eq_of_lt hx, Nat.mul_add_mod, Nat.mod_eq_of_lt hx]
  rfl
theorem joinH_lt {h : Nat} {x : Nat × Nat} (h1 : x.1 < 2 ^ h) (h2 : x.2 < 2 ^ h) : joinH h x < 2 ^ h * 2 ^ h := by
  unfold joinH
  have : x.1 * 2 ^ h + 2 ^ h ≤ 2 ^ h * 2 ^ h := by rw [← Nat.succ_mul]; exact Nat.mul_le_mul_right _ h1
  omega
theorem halves_lt {h k : Nat} (hk : k < 2 ^ h * 2 ^ h) : (halves h k).1 < 2 ^ h ∧ (halves h k).2 < 2 ^ h :=
  ⟨Nat.div_lt_of_lt_mul hk, Nat.mod_lt _ (Nat.pow_pos (by omega))⟩
theorem feistel {p : Nat → Nat → Nat} {h : Nat} (hp : ∀ i r, p i r < 2 ^ h) : Perm (forthN p h) (backN p h) (2 ^ h * 2 ^ h) where
  fl x hx := by have a := halves_lt hx; have b := fwd_lt hp 4 _ a.1 a.2; exact joinH_lt b.1 b.2
  bl x hx := by have a := halves_lt hx; have b := bwd_lt hp 4 _ a.1 a.2; exact joinH_lt b.1 b.2
  bf x hx := by
    have a := halves_lt hx
    have b := fwd_lt hp 4 _ a.1 a.2
    unfold backN forthN
    rw [halves_joinH b.2, bwd_fwd, joinH_halves]
  fb x hx := by
    have a := halves_lt hx
    have b := bwd_lt hp 4 _ a.1 a.2
    unfold backN forthN
    rw [halves_joinH b.2, fwd_bwd, joinH_halves]
end Go.Pure
