/- Plain laws of a disk with one file: a crash; the sum of a text with a bit turned. No program is named here. -/
import Derived.Test.YtdflpcbkkpgnlaaPureDisk
import Derived.Test.YtdflpcbkkpgnlaaPureDetect
namespace Go.Dk
set_option linter.unusedVariables false

/-- Only the file i has bytes; the disk is on and no failure is planned. -/
structure One (s : S) (r i : Nat) (l : List UInt8) (d : Nat) : Prop where
  room : s.room = r
  lt : i < 64
  other : ∀ j, j ≠ i → s.f j = []
  file : s.f i = l
  firm : s.firm i = d
  le : d ≤ l.length
  on : s.off = false
  plan : s.plan = -1
theorem usedN_at {f : Nat → List UInt8} {i : Nat} (h : ∀ j, j ≠ i → f j = []) : ∀ n, i < n → usedN f n = (f i).length
  | 0, hi => by omega
  | n + 1, hi => by
    unfold usedN
    by_cases e : i = n
    · subst e
      have : ∀ m, m ≤ i → usedN f m = 0 := by
        intro m
        induction m with
        | zero => intro _; rfl
        | succ m ih => intro hm; unfold usedN; rw [ih (by omega), h m (by omega)]; rfl
      rw [this i (Nat.le_refl _), Nat.zero_add]
    · rw [usedN_at h n (by omega), h n (fun e2 => e e2.symm)]
      simp
section
variable {s : S} {r i d : Nat} {l : List UInt8}
theorem One.usd (h : One s r i l d) : used s = l.length := by
  unfold Dk.used
  rw [usedN_at h.other 64 h.lt, h.file]
theorem One.flist (h : One s r i l d) (hl : l ≠ []) : files s = [i] := by
  have hm : ∀ j, j ∈ files s ↔ j = i := fun j => by
    rw [mem_files]
    constructor
    · rintro ⟨_, h2⟩
      exact Decidable.byContradiction (fun e => h2 (h.other j e))
    · rintro rfl
      exact ⟨h.lt, by rw [h.file]; exact hl⟩
  have hp : (files s).Perm [i] := (List.perm_ext_iff_of_nodup (files_nodup s) (by simp)).2 (fun a => by rw [hm a]; simp)
  exact List.perm_singleton.1 hp
theorem One.rnk (h : One s r i l d) : rank s i = 0 := by
  unfold Dk.rank
  have : filesN s.f i = [] := by
    rw [List.eq_nil_iff_forall_not_mem]
    intro j hj
    have := mem_filesN.1 hj
    exact this.2 (h.other j (by omega))
  rw [this]; rfl
theorem One.new {r i : Nat} (hi : i < 64) : One (Dk.new r) r i [] 0 := ⟨rfl, hi, fun j _ => rfl, rfl, rfl, Nat.le_refl _, rfl, rfl⟩
theorem One.putn (h : One s r i l d) {l' : List UInt8} {d' : Nat} (hd : d' ≤ l'.length) : One (put s i l' d') r i l' d' :=
  ⟨h.room, h.lt, fun j hj => by show upd s.f i l' j = []; rw [upd_other _ _ hj]; exact h.other j hj, by show upd s.f i l' i = _; rw [upd_same], by show upd s.firm i d' i = _; rw [upd_same], hd, h.on, h.plan⟩
theorem One.app (h : One s r i l d) {b : List UInt8} (hb : l.length + b.length ≤ r) : ∃ s', append s (i : Int) b = (s', 0) ∧ One s' r i (l ++ b) d := by
  refine ⟨put s i (l ++ b) d, ?_, h.putn (by rw [List.length_append]; have := h.le; omega)⟩
  have hi := h.lt
  unfold append
  rw [if_neg (by omega), if_neg (by rw [h.on]; simp), if_neg (by rw [h.usd, h.room]; omega)]
  have ht : (i : Int).toNat = i := by omega
  rw [ht, h.file, h.firm]
  have hp : pstep (put s i (l ++ b) d) = (put s i (l ++ b) d, false) := if_pos (by show s.plan < 0; rw [h.plan]; omega)
  rw [hp]
  rfl
theorem One.syn (h : One s r i l d) : ∃ s', sync s = (s', 0) ∧ One s' r i l l.length := by
  refine ⟨firmAll s, ?_, h.room, h.lt, h.other, h.file, by show (s.f i).length = _; rw [h.file], Nat.le_refl _, h.on, h.plan⟩
  have hp : pstep s = (s, false) := if_pos (by rw [h.plan]; omega)
  rw [sync_ok h.on (by rw [hp]), hp]
theorem One.rd (h : One s r i l d) : read s (i : Int) = (l, 0) := by
  have hi := h.lt
  unfold read
  rw [if_neg (by omega), if_neg (by rw [h.on]; simp), show (i : Int).toNat = i by omega, h.file]
theorem One.kpt (h : One s r i l d) (keep : Int) : kept s [keep] i = (max 0 (min keep ((l.length : Int) - d))).toNat := by
  unfold kept
  rw [h.rnk, h.file, h.firm]
  rfl
/-- A file behind a crash that keeps m loose bytes. -/
def behind (l : List UInt8) (d m : Nat) (flip : Int) : List UInt8 :=
  if 0 ≤ flip ∧ 0 < m then turn (l.take (d + m)) (d + flip.toNat % (8 * m) / 8) (flip.toNat % (8 * m) % 8) else l.take (d + m)
theorem One.crs (h : One s r i l d) (keep flip : Int) {m : Nat} (hm : (max 0 (min keep ((l.length : Int) - d))).toNat = m) : ∃ s', crash s [keep] flip = s' ∧ read s' (i : Int) = (behind l d m flip, 0) := by
  refine ⟨_, rfl, ?_⟩
  have hi := h.lt
  unfold read
  rw [if_neg (by omega), if_neg (by simp [crash]), show (i : Int).toNat = i by omega]
  show ((turned s [keep] flip).f i, 0) = _
  congr 1
  have hle := h.le
  by_cases hl : l = []
  · subst hl
    have hm0 : m = 0 := by simp at hm hle; omega
    subst hm0
    unfold behind
    rw [if_neg (by omega)]
    have hf : files s = [] := by
      rw [List.eq_nil_iff_forall_not_mem]
      intro j hj
      have := (mem_files.1 hj).2
      by_cases e : j = i
      · rw [e, h.file] at this; exact this rfl
      · exact this (h.other j e)
    unfold turned many manyTo
    rw [hf]
    simp [cut, cutTo, hf, h.file]
  · have hf := h.flist hl
    have hk := (h.kpt keep).trans hm
    have hmany : many s [keep] = m := by
      unfold many manyTo
      rw [hf]
      simp [hk]
    have hcut : (cut s [keep]).f i = l.take (d + m) := by
      show cutTo s [keep] (Dk.files s).length i = _
      unfold cutTo
      rw [hf, if_pos (by simp), h.file, h.firm, hk]
    unfold turned behind
    rw [hmany, hf]
    split
    · rename_i hc
      show invert (cut s [keep]) [i] (flip.toNat % (8 * m)) i = _
      have hfi : (cut s [keep]).firm i = d := h.firm
      have hlen : (l.take (d + m)).length - d = m := by rw [List.length_take]; omega
      have hlt : flip.toNat % (8 * m) < 8 * m := Nat.mod_lt _ (by omega)
      unfold invert
      rw [hcut, hfi, hlen, if_pos hlt, upd_same]
    · exact hcut
end
theorem turn_set {l : List UInt8} {p k : Nat} (hp : p < l.length) : turn l p k = l.set p (l[p] ^^^ UInt8.ofNat (2 ^ (7 - k))) := by
  unfold turn
  apply List.ext_getElem?
  intro j
  rw [List.getElem?_modify, List.getElem?_set]
  by_cases e : p = j
  · subst e; simp [hp]
  · rw [if_neg e]; simp [e]
theorem bit_ne (x : UInt8) {k : Nat} (hk : k < 8) : x ^^^ UInt8.ofNat (2 ^ (7 - k)) ≠ x := by
  intro h
  have h2 : x ^^^ (x ^^^ UInt8.ofNat (2 ^ (7 - k))) = x ^^^ x := by rw [h]
  rw [← UInt8.xor_assoc, UInt8.xor_self, UInt8.zero_xor] at h2
  have : ∀ k : Fin 8, UInt8.ofNat (2 ^ (7 - k.val)) ≠ 0 := by decide
  exact this ⟨k, hk⟩ h2
end Go.Dk
namespace Go.Pure
theorem bytesI_set {lab b : List UInt8} {i : Nat} {y : UInt8} (hlab : lab.length < 1000) (hb : b.length < 9223372036854775808) (hi : i < b.length) (h1 : bytesI lab (b.set i y) = bytesI lab b) : b[i]? = some y := by
  rw [bytesI_abs lab b (by omega) hb, bytesI_abs lab (b.set i y) (by omega) (by rw [List.length_set]; exact hb), nw_same (List.length_set (as := b) (i := i) (a := y))] at h1
  have hs := startN_lt lab (nw b + 1)
  generalize startN lab (nw b + 1) = s at *
  have h2 : mixN (absorbN s (allW (b.set i y))) 0 = mixN (absorbN s (allW b)) 0 := by omega
  have h3 := mixN_left (by omega) (absorbN_lt hs _) (absorbN_lt hs _) h2
  have hj : i / 8 < nw b := by unfold nw; omega
  have hnw : nw (b.set i y) = nw b := by simp [nw]
  refine wd_set_eq hi ?_
  unfold allW wds at h3
  rw [hnw, wdsTo_split _ _ _ hj, wdsTo_split b _ _ hj] at h3
  have ep : (List.range (i / 8)).map (wd (b.set i y)) = (List.range (i / 8)).map (wd b) := List.map_congr_left fun x hx => wd_set_ne (by have := List.mem_range.1 hx; omega)
  have eq : (List.range (nw b - i / 8 - 1)).map (fun x => wd (b.set i y) (i / 8 + 1 + x)) = (List.range (nw b - i / 8 - 1)).map (fun x => wd b (i / 8 + 1 + x)) := List.map_congr_left fun x hx => wd_set_ne (by omega)
  rw [ep, eq, List.length_set, List.append_assoc, List.append_assoc, List.cons_append, List.cons_append] at h3
  refine absorbN_one hs (wd_lt _ _) (wd_lt _ _) ?_ h3
  intro z hz
  rcases List.mem_append.1 hz with h | h
  · obtain ⟨k, _, rfl⟩ := List.mem_map.1 h
    exact wd_lt _ _
  · simp at h; omega
theorem turn_sum {lab b : List UInt8} {p k : Nat} (hlab : lab.length < 1000) (hb : b.length < 9223372036854775808) (hp : p < b.length) (hk : k < 8) : bytesI lab (Dk.turn b p k) ≠ bytesI lab b := by
  rw [Dk.turn_set hp]
  intro h
  have := bytesI_set hlab hb hp h
  rw [List.getElem?_eq_getElem hp] at this
  injection this with this
  exact Dk.bit_ne _ hk this.symm
end Go.Pure
