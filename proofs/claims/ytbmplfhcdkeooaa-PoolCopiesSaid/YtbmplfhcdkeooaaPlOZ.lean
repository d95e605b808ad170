/- The example of the pool. (Printed by gen_plives.py.) -/
import Derived.Test.YtbmplfhcdkeooaaPlNZ
import Derived.Test.YtbmplfhcdkeooaaG1
set_option linter.unusedSimpArgs false
set_option linter.unusedVariables false
namespace Go.Proofs.Ytbmplfhcdkeooaa
set_option linter.unusedVariables false
open Go.RowKit Go.Mem Go.Pl

set_option maxHeartbeats 4000000 in
set_option maxRecDepth 100000 in
theorem plives_any (w : World) : Calls Try.prog 16 #[] w fun e w' => e = .returned (.bool true) ∧ New w w' := by
  have Q1 := Lib.hid (show ∀ g O w1, PN w w1 O g (new 2 10) → Calls Try.prog 12 #[.pointer (some ⟨g, 0, none⟩), .agg #[.int .i64 2, .slice none 0 0]] w1 fun e w' => e = .returned (.int .i64 0) ∧ ∃ O', PN w w' O' g (add (new 2 10) 2 []).1 ∧ PStep w1 w' O O' from fun g O w1 h => l1 ▸ pnAdd h 2 (by unfold Go.Mem.I64; omega) none 0 0 [] (Rd.nil _ _) (by omega))
  have Q2 := Lib.hid (show ∀ g O w1, PN w w1 O g (add (new 2 10) 2 []).1 → Calls Try.prog 12 #[.pointer (some ⟨g, 0, none⟩), .agg #[.int .i64 1, .slice none 0 0]] w1 fun e w' => e = .returned (.int .i64 0) ∧ ∃ O', PN w w' O' g L2 ∧ PStep w1 w' O O' from fun g O w1 h => l2 ▸ pnAdd h 1 (by unfold Go.Mem.I64; omega) none 0 0 [] (Rd.nil _ _) (by omega))
  have Q3 := Lib.hid (show ∀ g O w1, PN w w1 O g L2 → Calls Try.prog 14 #[.pointer (some ⟨g, 0, none⟩), .int .i64 0, .int .i64 0] w1 fun e w' => ∃ A c, e = .returned (.tuple #[.agg #[.int .i64 1, .slice A 0 c], .int .i64 0, .bool true, .int .i64 0]) ∧ ∃ O', PN w w' O' g L3 ∧ PStep w1 w' O O' from fun g O w1 h => (pnAsk h 0 0 (by decide)).mono (by rw [l3]; rintro e w' ⟨A, c, rfl, _, O', h, h', _⟩; exact ⟨A, c, rfl, O', h, h'⟩))
  have Q4 := Lib.hid (show ∀ g O w1, PN w w1 O g L3 → Calls Try.prog 14 #[.pointer (some ⟨g, 0, none⟩), .int .i64 1, .int .i64 0] w1 fun e w' => ∃ A c, e = .returned (.tuple #[.agg #[.int .i64 2, .slice A 0 c], .int .i64 0, .bool true, .int .i64 0]) ∧ ∃ O', PN w w' O' g L4 ∧ PStep w1 w' O O' from fun g O w1 h => (pnAsk h 1 0 (by decide)).mono (by rw [l4]; rintro e w' ⟨A, c, rfl, _, O', h, h', _⟩; exact ⟨A, c, rfl, O', h, h'⟩))
  have Q5 := Lib.hid (show ∀ g O w1, PN w w1 O g L4 → Calls Try.prog 15 #[.pointer (some ⟨g, 0, none⟩), .agg #[.int .i64 2, .int .i64 1, .int .i64 0, .slice none 0 0], .int .i64 5] w1 fun e w' => e = .returned (.tuple #[.bool true, .int .i64 0]) ∧ ∃ O', PN w w' O' g L5 ∧ PStep w1 w' O O' from fun g O w1 h => (pnAnswer0 h 2 1 0 5 (by unfold Go.Mem.I64; omega) (by unfold Go.Mem.I64; omega)).mono (by rw [l5]; rintro e w' ⟨rfl, h⟩; exact ⟨rfl, h⟩))
  have Q6 := Lib.hid (show ∀ g O w1, PN w w1 O g L5 → Calls Try.prog 14 #[.pointer (some ⟨g, 0, none⟩), .int .i64 1, .int .i64 10] w1 fun e w' => ∃ A c, e = .returned (.tuple #[.agg #[.int .i64 1, .slice A 0 c], .int .i64 1, .bool true, .int .i64 0]) ∧ ∃ O', PN w w' O' g L6 ∧ PStep w1 w' O O' from fun g O w1 h => (pnAsk h 1 10 (by decide)).mono (by rw [l6]; rintro e w' ⟨A, c, rfl, _, O', h, h', _⟩; exact ⟨A, c, rfl, O', h, h'⟩))
  have Q7 := Lib.hid (show ∀ g O w1, PN w w1 O g L6 → Calls Try.prog 15 #[.pointer (some ⟨g, 0, none⟩), .agg #[.int .i64 1, .int .i64 0, .int .i64 0, .slice none 0 0], .int .i64 11] w1 fun e w' => e = .returned (.tuple #[.bool true, .int .i64 0]) ∧ ∃ O', PN w w' O' g L7 ∧ PStep w1 w' O O' from fun g O w1 h => (pnAnswer0 h 1 0 0 11 (by unfold Go.Mem.I64; omega) (by unfold Go.Mem.I64; omega)).mono (by rw [l7]; rintro e w' ⟨rfl, h⟩; exact ⟨rfl, h⟩))
  have Q8 := Lib.hid (show ∀ g O w1, PN w w1 O g L7 → Calls Try.prog 15 #[.pointer (some ⟨g, 0, none⟩), .agg #[.int .i64 1, .int .i64 1, .int .i64 1, .slice none 0 0], .int .i64 12] w1 fun e w' => e = .returned (.tuple #[.bool false, .int .i64 0]) ∧ ∃ O', PN w w' O' g L8 ∧ PStep w1 w' O O' from fun g O w1 h => (pnAnswer0 h 1 1 1 12 (by unfold Go.Mem.I64; omega) (by unfold Go.Mem.I64; omega)).mono (by rw [l8]; rintro e w' ⟨rfl, h⟩; exact ⟨rfl, h⟩))
  have Q9 := Lib.hid (show ∀ g O w1, PN w w1 O g L8 → Calls Try.prog 13 #[.pointer (some ⟨g, 0, none⟩)] w1 fun e w' => ∃ A c, e = .returned (.slice A 0 c) ∧ New w w' from fun g O w1 h => (pnOpen h).mono (by rw [l9]; rintro e w' ⟨A, c, rfl, _, h, _⟩; exact ⟨A, c, rfl, h.was⟩))
  go_enter Try.func16, Try.ntmps16
  go_wp2_with fail
  refine (pnNew 2 10 (by omega) (by omega) w w (Chg.refl _ _)).mono ?_
  rintro e w0 ⟨g, O0, rfl, hp, _⟩
  have H0 := Lib.hid hp
  clear hp
  go_wp2_with fail
  refine (Q1.out g _ _ (H0.out)).mono ?_
  rintro e w1 ⟨rfl, O1, hp, hs⟩
  have H1 := Lib.hid hp
  clear hp hs
  go_wp2_with fail
  refine (Q2.out g _ _ (H1.out)).mono ?_
  rintro e w2 ⟨rfl, O2, hp, hs⟩
  have H2 := Lib.hid hp
  clear hp hs
  go_wp2_with fail
  refine (Q3.out g _ _ (H2.out)).mono ?_
  rintro e w3 ⟨A3, c3, rfl, O3, hp, hs⟩
  have H3 := Lib.hid hp
  clear hp hs
  go_wp2_with fail
  have hbx5 := Box.made (H3.out) 30 #[.int .i64 1, .slice A3 0 c3]
  refine (Q4.out g _ _ (H3.out.new ((Chg.refl _ _).alloc _))).mono ?_
  rintro e w4 ⟨A4, c4, rfl, O4, hp, hs⟩
  have HB5_4 := Lib.hid (hbx5.step hs)
  have H4 := Lib.hid hp
  clear hp hs hbx5
  go_wp2_with fail
  have hbx9 := Box.made (H4.out) 30 #[.int .i64 2, .slice A4 0 c4]
  have hby5 := HB5_4.out.new ((Chg.refl (fun _ => False) w4).alloc (.cells #[.int .i64 2, .slice A4 0 c4] 30))
  refine (Q5.out g _ _ (H4.out.new ((Chg.refl _ _).alloc _))).mono ?_
  rintro e w5 ⟨rfl, O5, hp, hs⟩
  have HB5_5 := Lib.hid (hby5.step hs)
  have HB9_5 := Lib.hid (hbx9.step hs)
  have H5 := Lib.hid hp
  clear hp hs hbx9 hby5
  go_wp2_with fail
  refine (Q6.out g _ _ (H5.out)).mono ?_
  rintro e w6 ⟨A6, c6, rfl, O6, hp, hs⟩
  have HB5_6 := Lib.hid (HB5_5.out.step hs)
  have HB9_6 := Lib.hid (HB9_5.out.step hs)
  have H6 := Lib.hid hp
  clear hp hs
  go_wp2_with fail
  have hbx15 := Box.made (H6.out) 30 #[.int .i64 1, .slice A6 0 c6]
  have hby5 := HB5_6.out.new ((Chg.refl (fun _ => False) w6).alloc (.cells #[.int .i64 1, .slice A6 0 c6] 30))
  have hby9 := HB9_6.out.new ((Chg.refl (fun _ => False) w6).alloc (.cells #[.int .i64 1, .slice A6 0 c6] 30))
  refine (Q7.out g _ _ (H6.out.new ((Chg.refl _ _).alloc _))).mono ?_
  rintro e w7 ⟨rfl, O7, hp, hs⟩
  have HB5_7 := Lib.hid (hby5.step hs)
  have HB9_7 := Lib.hid (hby9.step hs)
  have HB15_7 := Lib.hid (hbx15.step hs)
  have H7 := Lib.hid hp
  clear hp hs hbx15 hby5 hby9
  go_wp2_with fail
  refine (Q8.out g _ _ (H7.out)).mono ?_
  rintro e w8 ⟨rfl, O8, hp, hs⟩
  have HB5_8 := Lib.hid (HB5_7.out.step hs)
  have HB9_8 := Lib.hid (HB9_7.out.step hs)
  have HB15_8 := Lib.hid (HB15_7.out.step hs)
  have H8 := Lib.hid hp
  clear hp hs
  have k5 := HB5_8.out.1.cell 0 (u := .int .i64 1) rfl
  have k9 := HB9_8.out.1.cell 0 (u := .int .i64 2) rfl
  have k15 := HB15_8.out.1.cell 0 (u := .int .i64 1) rfl
  go_wp2_with (go_at_call 13; refine (Q9.out g _ _ H8.out).mono ?_; rintro e w9 ⟨A9, c9, rfl, hn9⟩)
  go_ret
  exact ⟨rfl, hn9⟩
end Go.Proofs.Ytbmplfhcdkeooaa
