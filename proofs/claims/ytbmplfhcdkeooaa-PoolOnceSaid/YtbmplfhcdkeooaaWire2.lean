/- Contracts of wire.Writer: Int, Raw, Done. -/
import Derived.Test.YtbmplfhcdkeooaaWire
namespace Go.Proofs.Ytbmplfhcdkeooaa
open Go.RowKit Go.Mem Go.Pure

set_option maxHeartbeats 1000000 in
set_option maxRecDepth 100000 in
theorem wInt_any (g : Nat) (bo : Option Nat) (l : List UInt8) (n : Int) (w : World) (hlo : -9223372036854775808 ≤ n) (hhi : n ≤ 9223372036854775807) (hw : WrAt w g bo l) (hl : l.length ≤ 1000000000) :
    Calls Try.prog 31 #[.pointer (some ⟨g, 0, none⟩), .int .i64 n] w fun e w' => e = .returned (.tuple #[]) ∧
      ∃ bo', WrAt w' g bo' (l ++ uvar (zig n)) ∧ Chg (fun k => k = g ∨ bo = some k) w w' ∧ (bo' = bo ∨ ∃ k, bo' = some k ∧ w.heap.size ≤ k) := by
  go_enter Try.func31, Try.ntmps31
  go_wp2_with fail
  rw [zig_eq n hlo hhi]
  refine (wUint_any g bo l (zig n) w (zig_lt n hlo hhi) hw hl).mono ?_
  rintro e w1 ⟨rfl, bo1, hw1, hc1, ha1⟩
  go_wp2
  go_end0
  exact ⟨rfl, bo1, hw1, hc1, ha1⟩

set_option maxHeartbeats 1000000 in
set_option maxRecDepth 100000 in
theorem wRaw_any (g : Nat) (bo : Option Nat) (l : List UInt8) (A : Option Addr) (n c : Nat) (b : List UInt8) (w : World) (hr : Rd w A n (bs b)) (hA : blk A ≠ some g) (hA2 : bo = none ∨ blk A ≠ bo) (hn : n ≤ 1000000000) (hw : WrAt w g bo l) (hl : l.length ≤ 900000000) :
    Calls Try.prog 37 #[.pointer (some ⟨g, 0, none⟩), .slice A n c] w fun e w' => e = .returned (.tuple #[]) ∧
      ∃ bo', WrAt w' g bo' (l ++ (uvar n ++ b)) ∧ Chg (fun k => k = g ∨ bo = some k) w w' ∧ (bo' = bo ∨ ∃ k, bo' = some k ∧ w.heap.size ≤ k) := by
  have hbl : b.length = n := by simpa using hr.len
  have HBL := Lib.hid hbl
  clear hbl
  go_enter Try.func37, Try.ntmps37
  go_wp2_with fail
  refine (wUint_any g bo l n w (by omega) hw (by omega)).mono ?_
  rintro e w1 ⟨rfl, bo1, hw1, hc1, ha1⟩
  have hr1 : Rd w1 A n (bs b) := hr.chg hc1 (fun k hk _ hS => by
    rcases hS with rfl | hS
    · exact hA hk
    · rcases hA2 with h | h
      · rw [h] at hS; cases hS
      · exact h (by rw [hk, hS]))
  have hu := uvar_len (n := n) (by omega)
  obtain ⟨A1, N, c1, hb1, hown1, hbo1⟩ := hw1
  have hN : N ≤ 900000010 := by have := hown1.1; simp at this; omega
  have HBO := Lib.hid hbo1
  have HB := Lib.hid hb1
  have HO := Lib.hid hown1
  have hcc := hb1.cell 0 rfl
  have hff := hb1.frozen 0
  clear hbo1 hb1 hown1
  go_wp2_with (at_builtin; refine wpList_app elemBytes rfl _ _ rfl rfl HO.out rfl hr1 (bs_one _) (by simp only [maxLen]; omega) (by omega) (Nat.zero_le _) ?_; intro A' c' w2 hown2 hg2 hat2; have hb2 := HB.out.grown hg2 (HB.out.ne_own HO.out (by decide)); have hcc2 := hb2.cell 0 rfl; have hff2 := hb2.frozen 0; have HB2 := Lib.hid hb2; have HO2 := Lib.hid hown2; clear hb2 hown2)
  obtain ⟨hw3, hc3, ha3⟩ := wr_step (l' := l ++ (uvar n ++ b)) hc1 (Chg.refl _ w1) ha1 HBO.out hg2 hat2 HB2.out (by have := HO2.out; rw [← List.append_assoc, bs_append]; exact this)
  go_end0
  exact ⟨rfl, _, hw3, hc3, ha3⟩

set_option maxHeartbeats 1000000 in
set_option maxRecDepth 100000 in
theorem wDone_any (g : Nat) (bo : Option Nat) (l : List UInt8) (w : World) (hw : WrAt w g bo l) (hl : l.length ≤ 1000000000) :
    Calls Try.prog 32 #[.pointer (some ⟨g, 0, none⟩)] w fun e w' => ∃ A c, e = .returned (.slice A l.length c) ∧
      w'.ownsRow w.heap.size 5 1 (.slice A l.length c) l.length (bs l) ∧ New w w' := by
  obtain ⟨A, N, c, hb, hown, hbo⟩ := hw
  have hN : l.length = N := by have := hown.1; simpa using this
  have HN := Lib.hid hN
  have hN2 : N ≤ 1000000000 := by omega
  have hcc := hb.cell 0 rfl
  have hff := hb.frozen 0
  have hgl := hb.lt
  have hrd := Rd.of_own hown
  clear hN hbo hown hb
  have HR := Lib.hid hrd
  clear hrd
  go_enter Try.func32, Try.ntmps32
  go_wp2_with (at_builtin; refine wpList_app elemBytes rfl _ _ rfl rfl (World.ownsRow_made w _ 0 (Nat.le_refl _) (Nat.zero_le _) rfl) rfl (HR.out.new ((Chg.refl _ w).alloc _)) (bs_one _) (by simp only [maxLen]; omega) (by omega) (by simp) ?_; intro A' c' w2 hown2 hg2 hat2)
  go_ret
  rw [HN.out]
  refine ⟨A', c', by simp, by simpa using hown2, ?_⟩
  exact ((Chg.refl _ w).alloc _).grown hg2 (fun k hk hlt => by simp [blk] at hk; omega)

end Go.Proofs.Ytbmplfhcdkeooaa
