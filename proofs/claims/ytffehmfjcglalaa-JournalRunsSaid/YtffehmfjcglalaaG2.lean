/- The parts Wire, Wire2 of the proof, in one text. -/
import Derived.Test.YtffehmfjcglalaaProg
import Derived.Test.YtffehmfjcglalaaMem
import Derived.Test.YtffehmfjcglalaaG0
import Derived.Test.YtffehmfjcglalaaBase
set_option linter.unusedSimpArgs false
set_option linter.unusedVariables false

namespace Go.Proofs.Ytffehmfjcglalaa
open Go.RowKit Go.Mem Go.Pure

/-- Block g is a Writer whose bytes are l, in the block bo. -/
def WrAt (w : World) (g : Nat) (bo : Option Nat) (l : List UInt8) : Prop :=
  ∃ A n c, Blk w g 72 #[.slice A n c] ∧ w.ownsRow 0 5 1 (.slice A n c) n (bs l) ∧ blk A = bo

/-- What an append to a Writer's bytes, stored back, leaves. -/
theorem wr_step {w wr wx w1 : World} {g M c' : Nat} {bo bo' : Option Nat} {A A' : Option Addr} {l' : List UInt8} {v : Value} (hchg : Chg (fun k => k = g ∨ bo = some k) w wr) (hx : New wr wx)
    (hat : bo' = bo ∨ ∃ k, bo' = some k ∧ w.heap.size ≤ k) (hbo : blk A = bo') (hg1 : wx.grownBy w1 (blk A)) (hat1 : blk A' = blk A ∨ blk A' = some wx.heap.size)
    (hb1 : Blk w1 g 72 #[v]) (hown1 : w1.ownsRow 0 5 1 (.slice A' M c') M (bs l')) :
    WrAt (w1.setCell ⟨g, 0, none⟩ (.slice A' M c')) g (blk A') l' ∧ Chg (fun k => k = g ∨ bo = some k) w (w1.setCell ⟨g, 0, none⟩ (.slice A' M c')) ∧ (blk A' = bo ∨ ∃ k, blk A' = some k ∧ w.heap.size ≤ k) := by
  have hne := hb1.ne_own hown1 (by decide)
  have hc1 : Chg (fun k => k = g ∨ bo = some k) w w1 := (hchg.new hx).grown hg1 (fun k hk hlt => by
    rw [hbo] at hk
    rcases hat with rfl | ⟨k', rfl, hk'⟩
    · exact .inr hk
    · cases hk; omega)
  refine ⟨⟨A', M, c', ?_, ?_, rfl⟩, hc1.setCell (fun _ => .inl rfl) _, ?_⟩
  · exact hb1.set_ 0 _
  · exact own_chg (S := fun k => k = g) hown1 ((Chg.refl (fun k => k = g) w1).setCell (p := ⟨g, 0, none⟩) (fun _ => rfl) _) (fun k hk e => hne (by rw [hk, e]))
  · rcases hat1 with e | e
    · rw [e, hbo]; exact hat
    · exact .inr ⟨_, e, Nat.le_trans hchg.size hx.size⟩

set_option maxHeartbeats 1000000 in
set_option maxRecDepth 100000 in
theorem wUint_any (g : Nat) (bo : Option Nat) (l : List UInt8) (n : Nat) (w : World) (hn : n < 18446744073709551616) (hw : WrAt w g bo l) (hl : l.length ≤ 1000000000) :
    Calls Try.prog 37 #[.pointer (some ⟨g, 0, none⟩), .int .u64 n] w fun e w' => e = .returned (.tuple #[]) ∧
      ∃ bo', WrAt w' g bo' (l ++ uvar n) ∧ Chg (fun k => k = g ∨ bo = some k) w w' ∧ (bo' = bo ∨ ∃ k, bo' = some k ∧ w.heap.size ≤ k) := by
  have hu := uvar_len hn
  have HN := Lib.hid hn
  clear hn
  go_enter Try.func37, Try.ntmps37
  go_wp2
  go_loopw [1] (fun i wr => ∃ m : Nat, m ≤ n ∧ i = .int .u64 m ∧ ∃ (d : List UInt8) (bo' : Option Nat), uvar n = d ++ uvar m ∧ WrAt wr g bo' (l ++ d) ∧ Chg (fun k => k = g ∨ bo = some k) w wr ∧ (bo' = bo ∨ ∃ k, bo' = some k ∧ w.heap.size ≤ k)) (fun i _ => (intOf i).toNat)
  case atStart => exact ⟨n, Nat.le_refl _, rfl, [], bo, rfl, by simpa using hw, Chg.refl _ w, .inl rfl⟩
  case round =>
    obtain ⟨m, hm, rfl, d, bo', hd, ⟨A, N, c, hb, hown, hbo⟩, hchg, hat⟩ := hrel
    have hdl : d.length + 1 ≤ 10 := by
      have := uvar_pos m
      rw [hd, List.length_append] at hu
      omega
    have hNl : N = l.length + d.length := by have := hown.1; simpa using this.symm
    have hN2 : N + 1 ≤ 1000000010 := by omega
    have HN2 := Lib.hid hNl
    have HD := Lib.hid hd
    clear hNl
    have HBO := Lib.hid hbo
    clear hd hbo
    by_cases hlt : 128 ≤ m
    · have hc0 := hb.cell 0 rfl
      have hf0 := hb.frozen 0
      have HB := Lib.hid hb
      have HO := Lib.hid hown
      go_wp2_with (at_builtin; refine wpList_app elemBytes rfl _ _ rfl rfl (HO.out.alloc _) rfl Rd.one (by simp [Value.oneCell']) (by simp only [maxLen]; omega) (by omega) (Nat.zero_le _) ?_; intro A' c' w1 hown1 hg1 hat1; have hb1 := (HB.out.alloc _).grown hg1 (HB.out.ne_own HO.out (by decide)); have hc1 := hb1.cell 0 rfl; have hf1 := hb1.frozen 0; have HB1 := Lib.hid hb1; have HO1 := Lib.hid hown1; clear hb1 hown1)
      obtain ⟨hw2, hc2, ha2⟩ := wr_step (l' := l ++ (d ++ [UInt8.ofNat (128 + m % 128)])) hchg ((Chg.refl _ wr).alloc _) hat HBO.out hg1 hat1 HB1.out (by have := HO1.out; rw [or_byte] at this; simpa [bs_append, bs, By] using this)
      go_roundw
      case rel => exact ⟨m / 128, by omega, by go_num, d ++ [UInt8.ofNat (128 + m % 128)], _, by rw [HD.out, uvar_ge hlt]; simp, hw2, hc2, ha2⟩
      case measure => simp [intOf]; omega
    · have hc0 := hb.cell 0 rfl
      have hf0 := hb.frozen 0
      have HB := Lib.hid hb
      have HO := Lib.hid hown
      go_wp2_with (at_builtin; refine wpList_app elemBytes rfl _ _ rfl rfl (HO.out.alloc _) rfl Rd.one (by simp [Value.oneCell']) (by simp only [maxLen]; omega) (by omega) (Nat.zero_le _) ?_; intro A' c' w1 hown1 hg1 hat1; have hb1 := (HB.out.alloc _).grown hg1 (HB.out.ne_own HO.out (by decide)); have hc1 := hb1.cell 0 rfl; have hf1 := hb1.frozen 0; have HB1 := Lib.hid hb1; have HO1 := Lib.hid hown1; clear hb1 hown1)
      obtain ⟨hw2, hc2, ha2⟩ := wr_step (l' := l ++ (d ++ [UInt8.ofNat m])) hchg ((Chg.refl _ wr).alloc _) hat HBO.out hg1 hat1 HB1.out (by have := HO1.out; rw [ofNat_byte (show m < 128 by omega)] at this; rw [bs_append, bs_append, ← List.append_assoc, ← bs_append]; exact this)
      go_end0
      exact ⟨rfl, _, by rw [HD.out, uvar_lt (by omega)]; exact hw2, hc2, ha2⟩

end Go.Proofs.Ytffehmfjcglalaa

namespace Go.Proofs.Ytffehmfjcglalaa
open Go.RowKit Go.Mem Go.Pure

set_option maxHeartbeats 1000000 in
set_option maxRecDepth 100000 in
theorem wInt_any (g : Nat) (bo : Option Nat) (l : List UInt8) (n : Int) (w : World) (hlo : -9223372036854775808 ≤ n) (hhi : n ≤ 9223372036854775807) (hw : WrAt w g bo l) (hl : l.length ≤ 1000000000) :
    Calls Try.prog 34 #[.pointer (some ⟨g, 0, none⟩), .int .i64 n] w fun e w' => e = .returned (.tuple #[]) ∧
      ∃ bo', WrAt w' g bo' (l ++ uvar (zig n)) ∧ Chg (fun k => k = g ∨ bo = some k) w w' ∧ (bo' = bo ∨ ∃ k, bo' = some k ∧ w.heap.size ≤ k) := by
  go_enter Try.func34, Try.ntmps34
  go_wp2_with fail
  rw [zig_eq n hlo hhi]
  refine (wUint_any g bo l (zig n) w (zig_lt n hlo hhi) hw hl).mono ?_
  rintro e w1 ⟨rfl, bo1, hw1, hc1, ha1⟩
  go_wp2
  go_end0
  exact ⟨rfl, bo1, hw1, hc1, ha1⟩

set_option maxHeartbeats 1000000 in
set_option maxRecDepth 100000 in
theorem wRaw_any (g : Nat) (bo : Option Nat) (l : List UInt8) (A : Option Addr) (n c : Nat) (b : List UInt8) (w : World) (hr : Rd w A n (bs b)) (hA : blk A ≠ some g) (hA2 : bo = none ∨ blk A ≠ bo) (hn : n ≤ 1000000000) (hw : WrAt w g bo l) (hl : l.length ≤ 900000000) :
    Calls Try.prog 35 #[.pointer (some ⟨g, 0, none⟩), .slice A n c] w fun e w' => e = .returned (.tuple #[]) ∧
      ∃ bo', WrAt w' g bo' (l ++ (uvar n ++ b)) ∧ Chg (fun k => k = g ∨ bo = some k) w w' ∧ (bo' = bo ∨ ∃ k, bo' = some k ∧ w.heap.size ≤ k) := by
  have hbl : b.length = n := by simpa using hr.len
  have HBL := Lib.hid hbl
  clear hbl
  go_enter Try.func35, Try.ntmps35
  go_wp2_with fail
  refine (wUint_any g bo l n w (by omega) hw (by omega)).mono ?_
  rintro e w1 ⟨rfl, bo1, hw1, hc1, ha1⟩
  have hr1 : Rd w1 A n (bs b) := hr.chg hc1 (fun k hk _ hS => by
    rcases hS with rfl | hS
    · exact hA hk
    · rcases hA2 with h | h
      · rw [h] at hS; cases hS
      · exact h (by rw [hk, hS]))
  have hu := uvar_len (n := n) (by omega)
  obtain ⟨A1, N, c1, hb1, hown1, hbo1⟩ := hw1
  have hN : N ≤ 900000010 := by have := hown1.1; simp at this; omega
  have HBO := Lib.hid hbo1
  have HB := Lib.hid hb1
  have HO := Lib.hid hown1
  have hcc := hb1.cell 0 rfl
  have hff := hb1.frozen 0
  clear hbo1 hb1 hown1
  go_wp2_with (at_builtin; refine wpList_app elemBytes rfl _ _ rfl rfl HO.out rfl hr1 (bs_one _) (by simp only [maxLen]; omega) (by omega) (Nat.zero_le _) ?_; intro A' c' w2 hown2 hg2 hat2; have hb2 := HB.out.grown hg2 (HB.out.ne_own HO.out (by decide)); have hcc2 := hb2.cell 0 rfl; have hff2 := hb2.frozen 0; have HB2 := Lib.hid hb2; have HO2 := Lib.hid hown2; clear hb2 hown2)
  obtain ⟨hw3, hc3, ha3⟩ := wr_step (l' := l ++ (uvar n ++ b)) hc1 (Chg.refl _ w1) ha1 HBO.out hg2 hat2 HB2.out (by have := HO2.out; rw [← List.append_assoc, bs_append]; exact this)
  go_end0
  exact ⟨rfl, _, hw3, hc3, ha3⟩

set_option maxHeartbeats 1000000 in
set_option maxRecDepth 100000 in
theorem wDone_any (g : Nat) (bo : Option Nat) (l : List UInt8) (w : World) (hw : WrAt w g bo l) (hl : l.length ≤ 1000000000) :
    Calls Try.prog 36 #[.pointer (some ⟨g, 0, none⟩)] w fun e w' => ∃ A c, e = .returned (.slice A l.length c) ∧
      w'.ownsRow w.heap.size 5 1 (.slice A l.length c) l.length (bs l) ∧ New w w' := by
  obtain ⟨A, N, c, hb, hown, hbo⟩ := hw
  have hN : l.length = N := by have := hown.1; simpa using this
  have HN := Lib.hid hN
  have hN2 : N ≤ 1000000000 := by omega
  have hcc := hb.cell 0 rfl
  have hff := hb.frozen 0
  have hgl := hb.lt
  have hrd := Rd.of_own hown
  clear hN hbo hown hb
  have HR := Lib.hid hrd
  clear hrd
  go_enter Try.func36, Try.ntmps36
  go_wp2_with (at_builtin; refine wpList_app elemBytes rfl _ _ rfl rfl (World.ownsRow_made w _ 0 (Nat.le_refl _) (Nat.zero_le _) rfl) rfl (HR.out.new ((Chg.refl _ w).alloc _)) (bs_one _) (by simp only [maxLen]; omega) (by omega) (by simp) ?_; intro A' c' w2 hown2 hg2 hat2)
  go_ret
  rw [HN.out]
  refine ⟨A', c', by simp, by simpa using hown2, ?_⟩
  exact ((Chg.refl _ w).alloc _).grown hg2 (fun k hk hlt => by simp [blk] at hk; omega)

end Go.Proofs.Ytffehmfjcglalaa
