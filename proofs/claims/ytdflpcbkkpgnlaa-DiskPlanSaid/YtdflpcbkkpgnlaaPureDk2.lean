/- Plain laws of a disk with one file, for DiskPlan. No program is named here. -/
import Derived.Test.YtdflpcbkkpgnlaaPureDisk
namespace Go.Dk
set_option linter.unusedVariables false

/-- Only file 1 has bytes. -/
def Only (s : S) (z : Nat) : Prop := s.room = 1000 ∧ (∀ j, j ≠ 1 → s.f j = []) ∧ (s.f 1).length = z ∧ s.firm 1 ≤ z
theorem usedN_one {f : Nat → List UInt8} (h : ∀ j, j ≠ 1 → f j = []) : ∀ n, usedN f (n + 2) = (f 1).length
  | 0 => by
    unfold usedN usedN usedN
    rw [h 0 (by omega)]
    simp
  | n + 1 => by
    unfold usedN
    rw [usedN_one h n, h (n + 2) (by omega)]
    simp
theorem Only.usd {s : S} {z : Nat} (h : Only s z) : used s = z := (usedN_one h.2.1 62).trans h.2.2.1
theorem Only.flist {s : S} {z : Nat} (h : Only s z) (hz : z ≠ 0) : files s = [1] := by
  have hm : ∀ i, i ∈ files s ↔ i = 1 := fun i => by
    rw [mem_files]
    constructor
    · rintro ⟨_, h2⟩
      exact Decidable.byContradiction (fun e => h2 (h.2.1 i e))
    · rintro rfl
      refine ⟨by omega, fun e => hz ?_⟩
      rw [← h.2.2.1, e]; rfl
  have hp : (files s).Perm [1] := (List.perm_ext_iff_of_nodup (files_nodup s) (by simp)).2 (fun a => by rw [hm a]; simp)
  exact List.perm_singleton.1 hp
theorem Only.rnk {s : S} {z : Nat} (h : Only s z) : rank s 1 = 0 := by
  unfold Dk.rank filesN
  rw [show List.range 1 = [0] from rfl, List.filter_cons, h.2.1 0 (by omega)]
  rfl
/-- Behind i steps of a plan of M steps. -/
structure Pl (M : Nat) (s : S) (i z : Nat) : Prop where
  only : Only s z
  off : s.off = decide (M < i)
  plan : i ≤ M → s.plan = (M : Int) - (i : Int)
  le : z ≤ i
theorem Pl.step_ok {M i z : Nat} {s : S} (h : Pl M s i z) (hi : i < M) : pstep s = ({ s with plan := s.plan - 1 }, false) := by
  have := h.plan (by omega)
  unfold pstep
  rw [if_neg (by omega), if_neg (by omega)]
theorem Pl.step_down {M z : Nat} {s : S} (h : Pl M s M z) : pstep s = ({ s with plan := -1, off := true }, true) := by
  have := h.plan (Nat.le_refl _)
  unfold pstep
  rw [if_neg (by omega), if_pos (by omega)]
theorem Only.putn {s : S} {z d : Nat} {l : List UInt8} (h : Only s z) (hd : d ≤ l.length) : Only (put s 1 l d) l.length :=
  ⟨h.1, fun j hj => by show upd s.f 1 l j = []; rw [upd_other _ _ hj]; exact h.2.1 j hj, by show (upd s.f 1 l 1).length = _; rw [upd_same], by show upd s.firm 1 d 1 ≤ _; rw [upd_same]; exact hd⟩
theorem Pl.start {M : Nat} : Pl M (arm (new 1000) (M : Int)) 0 0 := by
  have h : arm (new 1000) (M : Int) = { new 1000 with plan := (M : Int) } := by
    unfold arm
    rw [if_neg (by simp [Dk.new]), show max (M : Int) (-1) = M by omega]
  rw [h]
  exact ⟨⟨rfl, fun j _ => rfl, rfl, Nat.le_refl _⟩, by simp [Dk.new], fun _ => by show (M : Int) = _; omega, Nat.le_refl _⟩
theorem Pl.app {M i z : Nat} {s : S} (h : Pl M s i z) (hi : i < 12) : ∃ s', append s 1 [5] = (s', if M ≤ i then 24 else 0) ∧ Pl M s' (i + 1) (if i ≤ M then z + 1 else z) := by
  unfold Dk.append
  rw [if_neg (by omega)]
  by_cases h1 : M < i
  · rw [if_pos (by rw [h.off]; simpa using h1), if_pos (by omega), if_neg (by omega)]
    exact ⟨s, rfl, h.only, by rw [h.off]; simp; omega, fun e => by omega, by have := h.le; omega⟩
  · have ho : s.off = false := by rw [h.off]; simpa using h1
    have hl := h.only.2.2.1
    have hd := h.only.2.2.2
    rw [if_neg (by rw [ho]; simp), if_neg (by rw [h.only.usd, h.only.1]; have := h.le; simp; omega)]
    have hP : Pl M (put s 1 (s.f 1 ++ [5]) (s.firm 1)) i (z + 1) → True := fun _ => trivial
    have hon := h.only.putn (l := s.f 1 ++ [5]) (d := s.firm 1) (by simp; omega)
    have hlen1 : (s.f 1 ++ [5]).length = z + 1 := by simp [hl]
    rw [hlen1] at hon
    rw [if_pos (show i ≤ M by omega)]
    have hpl := h.plan (by omega)
    have hle := h.le
    show ∃ s', ((pstep (Dk.put s 1 (s.f 1 ++ [5]) (s.firm 1))).1, if (pstep (Dk.put s 1 (s.f 1 ++ [5]) (s.firm 1))).2 = true then 24 else 0) = (s', _) ∧ _
    by_cases h2 : i = M
    · subst h2
      have hs : pstep (Dk.put s 1 (s.f 1 ++ [5]) (s.firm 1)) = ({ Dk.put s 1 (s.f 1 ++ [5]) (s.firm 1) with plan := -1, off := true }, true) := by
        unfold pstep
        rw [if_neg (by show ¬ s.plan < 0; omega), if_pos (by show s.plan = 0; omega)]
      rw [hs, if_pos (Nat.le_refl _)]
      exact ⟨_, rfl, hon, by simp, fun e => by omega, by omega⟩
    · have hs : pstep (Dk.put s 1 (s.f 1 ++ [5]) (s.firm 1)) = ({ Dk.put s 1 (s.f 1 ++ [5]) (s.firm 1) with plan := s.plan - 1 }, false) := by
        unfold pstep
        rw [if_neg (by show ¬ s.plan < 0; omega), if_neg (by show ¬ s.plan = 0; omega)]
        rfl
      rw [hs, if_neg (show ¬ M ≤ i by omega)]
      exact ⟨_, rfl, hon, by show s.off = _; rw [ho]; simp; omega, fun e => by show s.plan - 1 = _; omega, by omega⟩
theorem Pl.syn {M i z : Nat} {s : S} (h : Pl M s i z) : ∃ s', sync s = (s', if M ≤ i then 24 else 0) ∧ Pl M s' (i + 1) z := by
  unfold Dk.sync
  by_cases h1 : M < i
  · rw [if_pos (by rw [h.off]; simpa using h1), if_pos (by omega)]
    exact ⟨s, rfl, h.only, by rw [h.off]; simp; omega, fun e => by omega, by have := h.le; omega⟩
  · have ho : s.off = false := by rw [h.off]; simpa using h1
    rw [if_neg (by rw [ho]; simp)]
    have hpl := h.plan (by omega)
    have hle := h.le
    by_cases h2 : i = M
    · subst h2
      rw [h.step_down, if_pos rfl, if_pos (Nat.le_refl _)]
      exact ⟨_, rfl, h.only, by simp, fun e => by omega, by omega⟩
    · rw [h.step_ok (by omega), if_neg (by simp), if_neg (show ¬ M ≤ i by omega)]
      refine ⟨_, rfl, ⟨h.only.1, h.only.2.1, h.only.2.2.1, ?_⟩, by show s.off = _; rw [ho]; simp; omega, fun e => by show s.plan - 1 = _; omega, by omega⟩
      show (s.f 1).length ≤ z
      rw [h.only.2.2.1]
      exact Nat.le_refl _
theorem Pl.trn {M i z : Nat} {s : S} (h : Pl M s i z) (hz : 0 < z) : ∃ s', truncate s 1 ((z : Int) - 1) = (s', if M ≤ i then 24 else 0) ∧ Pl M s' (i + 1) (if i < M then z - 1 else z) := by
  unfold Dk.truncate
  have hl := h.only.2.2.1
  have ht : (1 : Int).toNat = 1 := rfl
  rw [ht, if_neg (by rw [hl]; omega)]
  by_cases h1 : M < i
  · rw [if_pos (by rw [h.off]; simpa using h1), if_pos (by omega), if_neg (by omega)]
    exact ⟨s, rfl, h.only, by rw [h.off]; simp; omega, fun e => by omega, by have := h.le; omega⟩
  · have ho : s.off = false := by rw [h.off]; simpa using h1
    rw [if_neg (by rw [ho]; simp)]
    have hpl := h.plan (by omega)
    have hle := h.le
    by_cases h2 : i = M
    · subst h2
      rw [h.step_down, if_pos rfl, if_pos (Nat.le_refl _), if_neg (by omega)]
      exact ⟨_, rfl, h.only, by simp, fun e => by omega, by omega⟩
    · rw [h.step_ok (by omega), if_neg (by simp), if_neg (show ¬ M ≤ i by omega), if_pos (show i < M by omega)]
      have hlt : ((s.f 1).take ((z : Int) - 1).toNat).length = z - 1 := by rw [List.length_take]; omega
      have hon := Only.putn (s := { s with plan := s.plan - 1 }) (z := z) (l := (s.f 1).take ((z : Int) - 1).toNat) (d := min (s.firm 1) ((z : Int) - 1).toNat) h.only (by rw [hlt]; omega)
      rw [hlt] at hon
      exact ⟨_, rfl, hon, by show s.off = _; rw [ho]; simp; omega, fun e => by show s.plan - 1 = _; omega, by omega⟩
/-- All loose bytes survive. -/
theorem Only.crs {s : S} {z : Nat} (h : Only s z) (hw : WF s) (hz : z ≤ 1000) : (crash s [1000] (-1)).f = s.f ∧ (crash s [1000] (-1)).off = false ∧ (crash s [1000] (-1)).plan = -1 := by
  refine ⟨?_, rfl, rfl⟩
  show (turned s [1000] (-1)).f = s.f
  unfold turned
  rw [if_neg (by omega)]
  show cutTo s [1000] (Dk.files s).length = s.f
  funext i
  unfold cutTo
  split
  · rename_i hm
    rw [List.take_length] at hm
    have hi : i = 1 := by
      refine Decidable.byContradiction (fun e => (mem_files.1 hm).2 (h.2.1 i e))
    subst hi
    have hk : kept s [1000] 1 = (s.f 1).length - s.firm 1 := by
      unfold kept
      rw [h.rnk]
      simp
      have h1 := h.2.2.1
      have h2 := h.2.2.2
      omega
    rw [hk]
    refine List.take_of_length_le ?_
    have := hw.firm 1
    omega
  · rfl
end Go.Dk
