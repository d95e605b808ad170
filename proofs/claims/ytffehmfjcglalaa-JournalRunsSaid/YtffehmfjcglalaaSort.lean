/- slices.Sort at a slice of ints that owns its row. -/
import Derived.Test.YtffehmfjcglalaaProg
import Derived.Test.YtffehmfjcglalaaMem
import Derived.Test.YtffehmfjcglalaaShelf
import Derived.Sort.OwnSortedInts
namespace Go.Proofs.Ytffehmfjcglalaa
set_option linter.unusedVariables false
open Go.RowKit Go.Mem Go.Sort

theorem sort_any (base : Nat) (A : Option Addr) (n c : Nat) (zs : List Int) (w : World) (h : w.ownsRow base 3 1 (.slice A n c) n (is zs)) (hn : n ≤ 1000000) :
    Calls Try.prog 53 #[.slice A n c] w fun e w' => e = .returned (.tuple #[]) ∧ w'.ownsRow base 3 1 (.slice A n c) n (is (zs.mergeSort fun x y => decide (x ≤ y))) ∧ Chg (fun k => blk A = some k) w w' := by
  have hl : zs.length = n := by have := (Rd.of_own h).len; simpa using this
  rcases h.2 with ⟨hv, h0⟩ | ⟨g, cap, cur, hv, hg, hb, h1, h2, h3, h4⟩
  · cases hv
    obtain rfl : zs = [] := List.eq_nil_of_length_eq_zero hl
    refine (Try.slices_Sort_int_none none 0 w).mono ?_
    rintro e w' ⟨rfl, rfl⟩
    exact ⟨rfl, by simpa using h, Chg.refl _ _⟩
  · cases hv
    have hlt : g < w.heap.size := (Array.getElem?_eq_some_iff.1 hb).1
    subst hl
    have hH : Holds (Value.int .i64) w g 0 zs.toArray := holds_of_blockI hb (by rw [Nat.mul_one] at h4; exact h4)
    refine (Try.slices_Sort_int g 0 c zs w hH hlt (by omega)).mono ?_
    rintro e w' ⟨rfl, k, os, rfl⟩
    have hgr := grownBy_sortedI (w := w) (g := g) (n := k) (os := os) (zs.mergeSort fun x y => decide (x ≤ y)).toArray
    refine ⟨rfl, ownsRow_sortedI (by rw [List.length_mergeSort]) hg hb h1 h2 h3, ⟨hgr.os, hgr.tape, hgr.output, hgr.size, fun k hk hne => hgr.block k hk (fun e => hne e.symm)⟩⟩
end Go.Proofs.Ytffehmfjcglalaa
