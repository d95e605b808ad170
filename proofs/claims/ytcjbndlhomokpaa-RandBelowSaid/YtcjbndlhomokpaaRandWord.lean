/- Contracts of rand.Word, rand.Split and their models; of refuterref01's Short, SameInts. -/
import Derived.Test.YtcjbndlhomokpaaHash2
import Derived.Test.YtcjbndlhomokpaaRefHash
namespace Go.Proofs.Ytcjbndlhomokpaa
open Go.RowKit Go.Shelf Go.Mem Go.Pure

/-- A word of a stream. -/
def wordI (seed : Int) (label : List UInt8) (i : Int) : Int := sumI label [wrap64 seed, i]
def splitL : List UInt8 := [115, 112, 108, 105, 116]
def splitI (seed : Int) (label : List UInt8) (k : Int) : Int := sumI splitL [wrap64 (wordI seed label k)]
theorem sumI_range' (lab : List UInt8) (l : List Int) : 0 ≤ sumI lab l ∧ sumI lab l ≤ 18446744073709551615 := mixI_range _ _

theorem rd_two {w : World} {a b : Int} {e : TypeId} : Rd (w.alloc (.cells #[.int .i64 a, .int .i64 b] e)) (some ⟨w.heap.size, 0, none⟩) 2 (is [a, b]) := Rd.lit (is [a, b]) rfl
theorem rd_one {w : World} {a : Int} {e : TypeId} : Rd (w.alloc (.cells #[.int .i64 a] e)) (some ⟨w.heap.size, 0, none⟩) 1 (is [a]) := Rd.lit (is [a]) rfl
theorem rd_three {w : World} {a b c : Int} {e : TypeId} : Rd (w.alloc (.cells #[.int .i64 a, .int .i64 b, .int .i64 c] e)) (some ⟨w.heap.size, 0, none⟩) 3 (is [a, b, c]) := Rd.lit (is [a, b, c]) rfl

set_option maxHeartbeats 1000000 in
theorem word_any (seed : Int) (s : ByteArray) (hs : s.size ≤ 1000000) (i : Int) (w : World) :
    Calls Try.prog 18 #[.int .u64 seed, .string s, .int .i64 i] w fun e w' => e = .returned (.int .u64 (wordI seed s.data.toList i)) ∧ New w w' := by
  go_enter Try.func18, Try.ntmps18
  go_wp2_with fail
  refine (sum_any s hs _ 2 2 [wrap64 seed, i] _ rd_two (by omega)).mono ?_
  rintro e w' ⟨rfl, hn⟩
  have H := Lib.hid (((Chg.refl (fun _ => False) w).alloc _).new hn)
  clear hn
  go_wp2
  go_ret
  exact ⟨rfl, H.out⟩

set_option maxHeartbeats 1000000 in
theorem rword_any (seed : Int) (s : ByteArray) (hs : s.size ≤ 1000000) (i : Int) (w : World) :
    Calls Try.prog 20 #[.int .u64 seed, .string s, .int .i64 i] w fun e w' => e = .returned (.int .u64 (wordI seed s.data.toList i)) ∧ New w w' := by
  go_enter Try.func20, Try.ntmps20
  go_wp2_with fail
  refine (rsum_any s hs _ 2 2 [wrap64 seed, i] _ rd_two (by omega)).mono ?_
  rintro e w' ⟨rfl, hn⟩
  have H := Lib.hid (((Chg.refl (fun _ => False) w).alloc _).new hn)
  clear hn
  go_wp2
  go_ret
  exact ⟨rfl, H.out⟩

set_option maxHeartbeats 1000000 in
theorem split_any (seed : Int) (s : ByteArray) (hs : s.size ≤ 1000000) (i : Int) (w : World) :
    Calls Try.prog 19 #[.int .u64 seed, .string s, .int .i64 i] w fun e w' => e = .returned (.int .u64 (splitI seed s.data.toList i)) ∧ New w w' := by
  go_enter Try.func19, Try.ntmps19
  go_wp2_with fail
  refine (word_any seed s hs i _).mono ?_
  rintro e w1 ⟨rfl, hn1⟩
  have H1 := Lib.hid hn1
  clear hn1
  go_wp2_with fail
  refine (sum_any ⟨#[115, 112, 108, 105, 116]⟩ (by decide) _ 1 1 [wrap64 (wordI seed s.data.toList i)] _ rd_one (by omega)).mono ?_
  rintro e w' ⟨rfl, hn⟩
  have H := Lib.hid ((H1.out.alloc _).new hn)
  clear hn H1
  go_wp2
  go_ret
  exact ⟨rfl, H.out⟩

set_option maxHeartbeats 1000000 in
theorem rsplit_any (seed : Int) (s : ByteArray) (hs : s.size ≤ 1000000) (i : Int) (w : World) :
    Calls Try.prog 22 #[.int .u64 seed, .string s, .int .i64 i] w fun e w' => e = .returned (.int .u64 (splitI seed s.data.toList i)) ∧ New w w' := by
  go_enter Try.func22, Try.ntmps22
  go_wp2_with fail
  refine (rword_any seed s hs i _).mono ?_
  rintro e w1 ⟨rfl, hn1⟩
  have H1 := Lib.hid hn1
  clear hn1
  go_wp2_with fail
  refine (rsum_any ⟨#[115, 112, 108, 105, 116]⟩ (by decide) _ 1 1 [wrap64 (wordI seed s.data.toList i)] _ rd_one (by omega)).mono ?_
  rintro e w' ⟨rfl, hn⟩
  have H := Lib.hid ((H1.out.alloc _).new hn)
  clear hn H1
  go_wp2
  go_ret
  exact ⟨rfl, H.out⟩

set_option maxHeartbeats 1000000 in
theorem short_any (s : ByteArray) (hs : s.size ≤ 9223372036854775807) (most : Nat) (hm : most ≤ 1000000) (w : World) :
    Calls Try.prog 17 #[.string s, .int .i64 most] w fun e w' => ∃ t : ByteArray, e = .returned (.string t) ∧ t.size ≤ most ∧ w = w' := by
  by_cases h : most < s.size
  · go_enter Try.func17, Try.ntmps17
    go_wp2
    go_ret
    exact ⟨s.extract 0 most, rfl, by rw [ByteArray.size_extract]; omega, rfl⟩
  · go_enter Try.func17, Try.ntmps17
    go_wp2
    go_ret
    exact ⟨s, rfl, by omega, rfl⟩
end Go.Proofs.Ytcjbndlhomokpaa
