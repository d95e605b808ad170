/- The walk of refuterlaw05.RandWords. -/
import Derived.Test.YtcjbndlhomokpaaRandLives
import Derived.Test.YtcjbndlhomokpaaArgs
namespace Go.Proofs.Ytcjbndlhomokpaa
set_option linter.unusedVariables false
open Go.RowKit Go.Mem Go.Dig Go.Pure

set_option maxRecDepth 100000 in
set_option maxHeartbeats 2000000 in
theorem randWords_walk (seed : Int) (s : ByteArray) (hs : s.size ≤ 9223372036854775807) (i : Int) (w : World) :
    Calls Try.prog 5 #[.int .u64 seed, .string s, .int .i64 i] w fun e w' => e = .returned (.bool true) ∧ New w w' := by
  go_enter Try.func5, Try.ntmps5
  go_wp2_with fail
  refine (short_any s hs 20 (by omega) w).mono ?_
  rintro e w1 ⟨t, rfl, ht, rfl⟩
  go_wp2_with fail
  refine (word_any seed t (by omega) i w).mono ?_
  rintro e w1 ⟨rfl, hn1⟩
  obtain ⟨W, hW⟩ : ∃ W, wordI seed t.data.toList i = W := ⟨_, rfl⟩
  rw [hW]
  have H1 := Lib.hid (And.intro hn1 hW)
  clear hn1 hW
  go_wp2_with fail
  refine (split_any seed t (by omega) i w1).mono ?_
  rintro e w2 ⟨rfl, hn2⟩
  obtain ⟨X, hX⟩ : ∃ X, splitI seed t.data.toList i = X := ⟨_, rfl⟩
  rw [hX]
  have H2 := Lib.hid (And.intro (H1.out.1.new hn2) hX)
  clear hn2 hX
  go_wp2_with fail
  refine (rword_any seed t (by omega) i w2).mono ?_
  rintro e w3 ⟨rfl, hn3⟩
  rw [H1.out.2]
  have H3 := Lib.hid (H2.out.1.new hn3)
  clear hn3
  go_wp2_with fail
  refine (sum_any t (by omega) _ 2 2 [wrap64 seed, i] _ rd_two (by omega)).mono ?_
  rintro e w4 ⟨rfl, hn4⟩
  rw [show sumI t.data.toList [wrap64 seed, i] = W from H1.out.2]
  have H4 := Lib.hid ((H3.out.alloc _).new hn4)
  clear hn4 H3
  go_wp2_with fail
  refine (sum_any ⟨#[115, 112, 108, 105, 116]⟩ (by decide) _ 1 1 [wrap64 W] _ rd_one (by omega)).mono ?_
  rintro e w5 ⟨rfl, hn5⟩
  rw [show sumI (ByteArray.mk #[115, 112, 108, 105, 116]).data.toList [wrap64 W] = X by rw [← H2.out.2, ← H1.out.2]; rfl]
  have H5 := Lib.hid ((H4.out.alloc _).new hn5)
  clear hn5 H4
  go_wp2_with fail
  refine (rsplit_any seed t (by omega) i w5).mono ?_
  rintro e w6 ⟨rfl, hn6⟩
  rw [H2.out.2]
  have H6 := Lib.hid (H5.out.new hn6)
  clear hn6 H5
  go_wp2_with fail
  refine (lives_any w6).mono ?_
  rintro e w7 ⟨rfl, hn7⟩
  have H7 := Lib.hid (H6.out.new hn7)
  clear hn7 H6
  go_wp2
  go_ret
  exact ⟨rfl, H7.out⟩
end Go.Proofs.Ytcjbndlhomokpaa
