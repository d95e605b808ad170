/- Contract of journal.Frame. -/
import Derived.Test.YtffehmfjcglalaaG2
import Derived.Test.YtffehmfjcglalaaG1
import Derived.Test.YtffehmfjcglalaaG0
set_option linter.unusedSimpArgs false
set_option linter.unusedVariables false
namespace Go.Proofs.Ytffehmfjcglalaa
open Go.RowKit Go.Shelf Go.Mem Go.Pure

theorem WrAt.new (w : World) : WrAt (w.alloc (.cells #[.slice none 0 0] 72)) w.heap.size none [] :=
  ⟨none, 0, 0, Blk.new _ _ _, World.ownsRow_nil _ _ _ _, rfl⟩
theorem WrAt.chg {w w' : World} {g : Nat} {bo : Option Nat} {l : List UInt8} {S : Nat → Prop} (h : WrAt w g bo l) (hc : Chg S w w') (hg : ¬ S g) (hb : ∀ k, bo = some k → ¬ S k) : WrAt w' g bo l := by
  obtain ⟨A, n, c, h1, h2, h3⟩ := h
  exact ⟨A, n, c, h1.chg hc hg, own_chg h2 hc (fun k hk => hb k (by rw [← h3, hk])), h3⟩
theorem WrAt.lt {w : World} {g : Nat} {bo : Option Nat} {l : List UInt8} (h : WrAt w g bo l) : g < w.heap.size := by
  obtain ⟨_, _, _, h1, _⟩ := h
  exact h1.lt
theorem WrAt.blt {w : World} {g : Nat} {bo : Option Nat} {l : List UInt8} (h : WrAt w g bo l) {k : Nat} (hk : bo = some k) : k < w.heap.size ∧ k ≠ g := by
  obtain ⟨A, n, c, h1, h2, h3⟩ := h
  refine ⟨(own_blk_le h2 (by rw [h3]; exact hk)).2, fun e => ?_⟩
  subst e
  exact h1.ne_own h2 (by decide) (by rw [h3]; exact hk)

set_option maxHeartbeats 1000000 in
set_option maxRecDepth 100000 in
theorem frame_any (num : Int) (A : Option Addr) (n c : Nat) (b : List UInt8) (w : World) (hlo : -9223372036854775808 ≤ num) (hhi : num ≤ 9223372036854775807) (hr : Rd w A n (bs b)) (hn : n ≤ 100000000) (hA : ∀ k, blk A = some k → k < w.heap.size) :
    Calls Try.prog 13 #[.int .i64 num, .slice A n c] w fun e w' => ∃ A' c', e = .returned (.slice A' (frameP num b).length c') ∧
      w'.ownsRow w.heap.size 5 1 (.slice A' (frameP num b).length c') (frameP num b).length (bs (frameP num b)) ∧ New w w' := by
  have hbl : b.length = n := by have := hr.len; rwa [bs_length] at this
  subst hbl
  have hcl := coreP_len num b hlo hhi (by omega)
  have hul := uvar_len (n := (coreP num b).length) (by omega)
  have hz := uvar_len (zig_lt num hlo hhi)
  go_enter Try.func13, Try.ntmps13
  go_wp2_with fail
  have hw00 : WrAt ((w.alloc (.cells #[.slice none 0 0] 72)).alloc (.cells #[.slice none 0 0] 72)) w.heap.size none [] := (WrAt.new w).chg ((Chg.refl (fun _ => False) _).alloc _) (fun h => h) (fun _ _ h => h)
  have hw01 : WrAt ((w.alloc (.cells #[.slice none 0 0] 72)).alloc (.cells #[.slice none 0 0] 72)) (w.heap.size + 1) none [] := by
    have := WrAt.new (w.alloc (.cells #[.slice none 0 0] 72))
    rwa [World.size_alloc] at this
  have hn0 : New w ((w.alloc (.cells #[.slice none 0 0] 72)).alloc (.cells #[.slice none 0 0] 72)) := ((Chg.refl _ w).alloc _).alloc _
  have hz0 : ((w.alloc (.cells #[.slice none 0 0] 72)).alloc (.cells #[.slice none 0 0] 72)).heap.size = w.heap.size + 2 := by simp
  generalize ((w.alloc (.cells #[.slice none 0 0] 72)).alloc (.cells #[.slice none 0 0] 72)) = w0 at *
  have hZ0 := Lib.hid hz0
  -- core.Int(number)
  refine (wInt_any w.heap.size none [] num w0 hlo hhi hw00 (by simp)).mono ?_
  rintro e w1 ⟨rfl, b1, hw1, hc1, ha1⟩
  have hs1 := hc1.size
  rw [hz0] at hs1
  have hb1 : ∀ k, b1 = some k → w.heap.size + 2 ≤ k := fun k hk => by
    rcases ha1 with h | ⟨k', h, hk'⟩
    · rw [h] at hk; cases hk
    · rw [hk] at h; cases h; omega
  have hc1' : Chg (fun k => k = w.heap.size) w0 w1 := hc1.mono (fun k _ h => by
    rcases h with h | h
    · exact h
    · cases h)
  have hw1' := hw01.chg hc1' (by omega) (fun _ h => by cases h)
  have hr1 := (hr.new hn0).chg hc1' (fun k hk _ h => by have := hA k hk; omega)
  have hn1 : New w w1 := hn0.trans hc1' (fun k hk h => by omega)
  have H1 := Lib.hid (And.intro hw1 (And.intro hw1' (And.intro hr1 (And.intro hb1 hn1))))
  clear hc1' hn1
  clear hw1 hw1' hr1 hb1 hc1 ha1 hz0 hw00 hw01 hn0
  go_wp2_with fail
  obtain ⟨hw1, hw1', hr1, hb1, hn1⟩ := H1.out
  -- core.Raw(b)
  have hb1n : b1 = none ∨ blk A ≠ b1 := by
    cases hb : b1 with
    | none => exact .inl rfl
    | some k => exact .inr (fun h => by have := hA _ h; have := hb1 k hb; omega)
  refine (wRaw_any w.heap.size b1 ([] ++ uvar (zig num)) A b.length c b w1 hr1 (fun h => by have := hA _ h; omega) hb1n (by omega) hw1 (by simp; omega)).mono ?_
  rintro e w2 ⟨rfl, b2, hw2, hc2, ha2⟩
  have hw2c : WrAt w2 w.heap.size b2 (coreP num b) := by unfold coreP; simpa using hw2
  have hw2' := hw1'.chg hc2 (fun h => by
    rcases h with h | h
    · omega
    · have := hb1 _ h; omega) (fun _ h => by cases h)
  have hn2 : New w w2 := hn1.trans hc2 (fun k hk h => by
    rcases h with h | h
    · omega
    · have := hb1 _ h; omega)
  have hs2 := Nat.le_trans hs1 hc2.size
  have H2 := Lib.hid (And.intro hw2c (And.intro hw2' hn2))
  clear hw2 hw2c hw2' hn2 hc2 ha2 hw1 hw1' hr1 hb1 hn1 H1
  go_wp2_with fail
  obtain ⟨hw2, hw2', hn2⟩ := H2.out
  -- bytes := core.Done()
  refine (wDone_any w.heap.size b2 (coreP num b) w2 hw2 (by omega)).mono ?_
  rintro e w3 ⟨A3, c3, rfl, ho3, hn3⟩
  have hw3' := hw2'.chg hn3 (fun h => h) (fun _ h => by cases h)
  have H3 := Lib.hid (And.intro ho3 (And.intro hw3' (hn2.new hn3)))
  have hs3 := Nat.le_trans hs2 hn3.size
  clear ho3 hw3' hn2 hw2 hw2' hn3 H2
  obtain ⟨N, hN⟩ : ∃ N, (coreP num b).length = N := ⟨_, rfl⟩
  rw [hN] at hcl hul H3 ⊢
  go_wp2_with fail
  obtain ⟨ho3, hw3', hn3⟩ := H3.out
  have hA3 : ∀ k, blk A3 = some k → w2.heap.size ≤ k ∧ k < w3.heap.size := fun k hk => own_blk_le ho3 hk
  -- frame.Raw(bytes)
  refine (wRaw_any (w.heap.size + 1) none [] A3 N c3 (coreP num b) w3 (Rd.of_own ho3) (fun h => by have := hA3 _ h; omega) (.inl rfl) (by omega) hw3' (by simp)).mono ?_
  rintro e w4 ⟨rfl, b4, hw4, hc4, ha4⟩
  have hr4 : Rd w4 A3 N (bs (coreP num b)) := (Rd.of_own ho3).chg hc4 (fun k hk _ h => by
    have := hA3 k hk
    rcases h with h | h
    · omega
    · cases h)
  have hw4c : WrAt w4 (w.heap.size + 1) b4 (rawP (coreP num b)) := by unfold rawP; rw [hN]; simpa using hw4
  have hn4 : New w w4 := hn3.trans hc4 (fun k hk h => by
    rcases h with h | h
    · omega
    · cases h)
  have hb4 : ∀ k, b4 = some k → w3.heap.size ≤ k := fun k hk => by
    rcases ha4 with h | ⟨k', h, hk'⟩
    · rw [h] at hk; cases hk
    · rw [hk] at h; cases h; exact hk'
  have H4 := Lib.hid (And.intro hr4 (And.intro hw4c (And.intro hn4 (And.intro hb4 (And.intro hc4.size hA3)))))
  clear hr4 hw4 hw4c hn4 hb4 ha4 hc4 hA3 ho3 hw3' hn3 H3
  go_wp2_with fail
  obtain ⟨hr4, hw4, hn4, hb4, hs4, hA3⟩ := H4.out
  -- hash.Bytes("entry", bytes)
  refine (hbytes_any ⟨#[101, 110, 116, 114, 121]⟩ (by decide) A3 N c3 (coreP num b) w4 hr4 (by omega) (fun k hk => by have := hA3 k hk; omega)).mono ?_
  rintro e w5 ⟨rfl, hn5⟩
  have hw5 := hw4.chg hn5 (fun h => h) (fun _ _ h => h)
  have H5 := Lib.hid (And.intro hw5 (And.intro (hn4.new hn5) hb4))
  have hs5 := Nat.le_trans hs4 hn5.size
  clear hr4 hw4 hn4 hb4 hA3 hn5 hw5 H4
  rw [show bytesI (ByteArray.mk #[101, 110, 116, 114, 121]).data.toList (coreP num b) = (sumP (coreP num b) : Int) from bytesI_toNat _]
  go_wp2_with fail
  obtain ⟨hw5, hn5, hb4⟩ := H5.out
  -- frame.Uint(..)
  refine (wUint_any (w.heap.size + 1) b4 (rawP (coreP num b)) (sumP (coreP num b)) w5 (sumP_lt _) hw5 (by unfold rawP; rw [List.length_append, hN]; omega)).mono ?_
  rintro e w6 ⟨rfl, b6, hw6, hc6, ha6⟩
  have hn6 : New w w6 := hn5.trans hc6 (fun k hk h => by
    rcases h with h | h
    · omega
    · have := hb4 _ h; omega)
  have hw6c : WrAt w6 (w.heap.size + 1) b6 (frameP num b) := hw6
  have H6 := Lib.hid (And.intro hw6c hn6)
  clear hw5 hn5 hb4 hw6 hw6c hn6 hc6 ha6 H5
  go_wp2_with fail
  obtain ⟨hw6, hn6⟩ := H6.out
  refine (wDone_any (w.heap.size + 1) b6 (frameP num b) w6 hw6 (by have := frameP_len num b hlo hhi hn; omega)).mono ?_
  rintro e w7 ⟨A7, c7, rfl, ho7, hn7⟩
  have H7 := Lib.hid (And.intro (own_base ho7 (hn6.size)) (hn6.new hn7))
  clear hw6 hn6 ho7 hn7 H6
  obtain ⟨M, hM⟩ : ∃ M, (frameP num b).length = M := ⟨_, rfl⟩
  have HM := Lib.hid hM
  rw [hM] at H7 ⊢
  clear hM
  go_wp2
  go_ret
  rw [HM.out]
  exact ⟨A7, c7, rfl, H7.out.1, H7.out.2⟩

end Go.Proofs.Ytffehmfjcglalaa
