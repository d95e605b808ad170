/- Contract of disk.Files. -/
import Derived.Test.YtffehmfjcglalaaDkBZ
import Derived.Test.YtffehmfjcglalaaSort
set_option linter.unusedSimpArgs false
set_option linter.unusedVariables false
namespace Go.Proofs.Ytffehmfjcglalaa
set_option linter.unusedVariables false
open Go.RowKit Go.Mem Go.Dk

/-- The files as ints. -/
def filesI (s : S) : List Int := (files s).map (fun i : Nat => (i : Int))
theorem filesI_sorted (s : S) : (filesI s).Pairwise (fun x y => x ≤ y) := by
  unfold filesI
  rw [List.pairwise_map]
  exact (filesN_rise s.f 64).imp (fun {a b} h => by omega)
theorem filesI_nodup (s : S) : (filesI s).Nodup := by
  unfold filesI List.Nodup
  rw [List.pairwise_map]
  exact (filesN_rise s.f 64).imp (fun {a b} h => by omega)
theorem lk_files {V : Nat → Value} {s : S} {x : Int} : (lk (entL V s) x).isSome = true ↔ x ∈ filesI s := by
  rw [lk_entL]
  unfold filesI
  rw [List.mem_map]
  constructor
  · intro h
    split at h
    · rename_i hx
      exact ⟨x.toNat, mem_files.2 ⟨by omega, hx.2.2⟩, by omega⟩
    · cases h
  · rintro ⟨i, hi, rfl⟩
    have := mem_files.1 hi
    rw [if_pos ⟨by omega, by omega, by simpa using this.2⟩]
    rfl
theorem sort_files {s : S} {zs : List Int} (h : zs.Nodup) (hm : ∀ x, x ∈ zs ↔ x ∈ filesI s) : zs.mergeSort (fun x y => decide (x ≤ y)) = filesI s := by
  have hp : zs.Perm (filesI s) := (List.perm_ext_iff_of_nodup h (filesI_nodup s)).2 hm
  have h1 : (zs.mergeSort (fun x y => decide (x ≤ y))).Perm (filesI s) := (List.mergeSort_perm zs _).trans hp
  have h2 := List.pairwise_mergeSort (le := fun x y : Int => decide (x ≤ y)) (fun a b c => by simp; omega) (fun a b => by simp; omega) zs
  refine h1.eq_of_pairwise (fun a b _ _ h3 h4 => by simp at h3 h4; omega) h2 ?_
  exact (filesI_sorted s).imp (fun h => by simpa using h)
/-- The keys that have been seen. -/
structure Seen (L : List Ent) (left : Int → Bool) (zs : List Int) : Prop where
  nodup : zs.Nodup
  mem : ∀ x, x ∈ zs ↔ (lk L x).isSome = true ∧ left x = false
theorem Seen.step {L : List Ent} {left : Int → Bool} {zs : List Int} (h : Seen L left zs) {i : Int} (hi : (lk L i).isSome = true) (hl : left i = true) : Seen L (fun x => left x && !(x == i)) (zs ++ [i]) := by
  refine ⟨?_, fun x => ?_⟩
  · rw [List.nodup_append]
    refine ⟨h.nodup, by simp, fun a ha b hb => ?_⟩
    obtain rfl : b = i := by simpa using hb
    intro e
    subst e
    have := ((h.mem a).1 ha).2
    rw [hl] at this
    cases this
  · rw [List.mem_append, h.mem x, List.mem_singleton]
    by_cases e : x = i
    · subst e; simp [hi]
    · simp [e]

set_option maxHeartbeats 1000000 in
set_option maxRecDepth 100000 in
theorem dFiles_any (g m : Nat) (V : Nat → Value) (s : S) (w : World) (h : DI w g m V s) :
    Calls Try.prog 42 #[.pointer (some ⟨g, 0, none⟩)] w fun e w' => ∃ A c, e = .returned (.slice A (filesI s).length c) ∧ w'.ownsRow w.heap.size 3 1 (.slice A (filesI s).length c) (filesI s).length (is (filesI s)) ∧ New w w' := by
  have hc1 := h.core.blk.cell 1 (u := .map (some m)) rfl
  have hgl := h.core.blk.lt
  have HH := Lib.hid h
  have HINV := Lib.hid h.inv
  have hf64 : (filesI s).length ≤ 64 := by unfold filesI; rw [List.length_map]; exact filesN_len s.f 64
  clear h
  go_enter Try.func42, Try.ntmps42
  go_wp2_with (at_range; refine wpList_rangeI _ rfl _ rfl keyInt Try.underlying66 rfl HH.out.core.map ?_; intro w0 hr0 hn0 hs0)
  have HR0 := Lib.hid hr0
  have HN0 := Lib.hid hn0
  clear hr0 hn0
  go_frame
  go_loopw [3] (fun u wr => ∃ left zs A n c, u = .slice A n c ∧ Seen (entL V s) left zs ∧ RI wr Try.prog 3 m w.heap.size (entL V s) left ∧ wr.ownsRow (w.heap.size + 1) 3 1 (.slice A n c) n (is zs) ∧ n = zs.length ∧ New w wr) (fun _ wr => wr.rangeLeft m w.heap.size)
  case atStart => exact ⟨_, [], none, 0, 0, rfl, ⟨List.nodup_nil, fun x => by simp; intro h; cases hx : lk (entL V s) x <;> simp_all⟩, HR0.out, World.ownsRow_nil _ _ _ _, rfl, HN0.out⟩
  case round =>
    obtain ⟨left, zs, A, n, c, rfl, hseen, hri, hown, hnl, hnw⟩ := hrel
    have HRI := Lib.hid hri
    have HNW := Lib.hid hnw
    have HOW := Lib.hid hown
    have HSE := Lib.hid hseen
    have HNL := Lib.hid hnl
    have hn64 : n ≤ 64 := by
      have : ∀ x ∈ zs, x ∈ filesI s := fun x hx => lk_files.1 ((hseen.mem x).1 hx).1
      have := List.Nodup.length_le_of_subset hseen.nodup this
      omega
    clear hri hnw hown hseen hnl
    go_wp2_with (at_next; refine wpList_nextI wr rfl _ rfl keyInt rfl HRI.out mkC HINV.out ?_ ?_)
    · intro hdone
      have hmem : ∀ x, x ∈ zs ↔ x ∈ filesI s := fun x => by
        rw [HSE.out.mem x, lk_files]
        exact ⟨fun h => h.1, fun h => ⟨h, hdone x⟩⟩
      have hsort := sort_files HSE.out.nodup hmem
      have hlen : (filesI s).length = n := by rw [← hsort, List.length_mergeSort, HNL.out]
      have HSO := Lib.hid hsort
      have HLE := Lib.hid hlen
      clear hmem hsort hlen
      go_wp2_with fail
      refine (sort_any (w.heap.size + 1) A n c zs wr HOW.out (by omega)).mono ?_
      rintro e w1 ⟨rfl, hown1, hch1⟩
      rw [HSO.out] at hown1
      have HX := Lib.hid (And.intro hown1 (HNW.out.owned hch1 (fun k hk => Nat.le_of_succ_le (own_blk_le HOW.out hk).1)))
      clear hown1 hch1
      go_wp2
      go_ret
      rw [HLE.out]
      exact ⟨A, c, rfl, own_base HX.out.1 (Nat.le_succ _), HX.out.2⟩
    · intro i A2 n2 c2 d2 w1 hm hi hl hr1 hc2 hsz hlt hen
      have hlk : (lk (entL V s) i).isSome = true := by rw [(lk_some (entL_rise V s)).2 hm]; rfl
      have hown1 := own_chg HOW.out hc2 (fun k hk e => by have := (own_blk_le HOW.out hk).1; omega)
      have hnx := (Chg.owned HNW.out hc2 (fun j e => by have := HNW.out.size; have := HN0.out.size; omega))
      have HSE1 := Lib.hid (HSE.out.step hlk hl)
      have HX := Lib.hid (And.intro hr1 hnx)
      have HO1 := Lib.hid hown1
      have hz1 : w.heap.size + 1 ≤ w1.heap.size := by have := HNW.out.size; have := HN0.out.size; rw [hsz]; have := HRI.out.lt; omega
      have HM := Lib.hid hm
      simp only [mkC] at hen ⊢
      clear hm hlk hown1 hnx hc2 hr1 hsz
      go_wp2_with (at_builtin; refine wpList_app elemInts rfl _ _ rfl rfl (HO1.out.alloc _) rfl Rd.one (is_one [i]) (by simp only [maxLen]; omega) (by omega) (by simp; omega) ?_; intro A' c' w2 hown2 hg2 hat2; have HO2 := Lib.hid hown2; have HG2 := Lib.hid (And.intro hg2 hat2); clear hown2 hg2 hat2)
      have hml := HH.out.core.map.lt
      have hch := ((Chg.refl (fun k => some k = blk A) w1).alloc (.cells #[Value.int IntKind.i64 i] 3)).trans (grown_chg HG2.out.1) (fun _ _ h => h)
      have hA : ∀ k, some k = blk A → w.heap.size + 1 ≤ k := fun k hk => (own_blk_le HO1.out hk.symm).1
      have n1 : ¬ (fun k => some k = blk A) m := fun e => by have := hA m e; omega
      have n2 : ¬ (fun k => some k = blk A) w.heap.size := fun e => by have := hA w.heap.size e; omega
      refine ⟨⟨_, zs ++ [i], A', n + 1, c', rfl, HSE1.out, HX.out.1.chg hch n1 n2, ?_, ?_, HX.out.2.owned hch (fun k hk => by have := hA k hk; omega)⟩, ?_⟩
      · have := HO2.out
        simpa [is] using this
      · rw [List.length_append, ← HNL.out]; rfl
      · rw [RI.left_chg HX.out.1 hch n1 n2]
        exact hlt
end Go.Proofs.Ytffehmfjcglalaa
