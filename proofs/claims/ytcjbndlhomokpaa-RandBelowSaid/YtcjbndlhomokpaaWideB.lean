/- Contracts of package wide: From, Compare, Sign, Neg, ranged. -/
import Derived.Test.YtcjbndlhomokpaaWideA
namespace Go.Proofs.Ytcjbndlhomokpaa
set_option linter.unusedVariables false
open Go.RowKit Go.Mem Go.Dig

theorem rd_lit2 {w : World} {a b g : Nat} {e : TypeId} (hg : g = w.heap.size) : Rd (w.alloc (.cells #[.int .u32 (a : Int), .int .u32 (b : Int)] e)) (some ⟨g, 0, none⟩) 2 (nv .u32 [a, b]) := by
  subst hg; exact Rd.lit (nv .u32 [a, b]) rfl

set_option maxHeartbeats 400000 in
theorem from_any (n : Int) (w : World) (h1 : -9223372036854775808 ≤ n) (h2 : n ≤ 9223372036854775807) :
    Calls Try.prog 24 #[.int .i64 n] w fun e w' => ∃ v, e = .returned v ∧ WI w' v n ∧ New w w' := by
  obtain ⟨M, hM⟩ : ∃ M : Nat, n.natAbs = M := ⟨_, rfl⟩
  have hv : val 4294967296 [M % 4294967296, M / 4294967296] = M := by simp only [val_cons, val_nil]; omega
  have hdg : Digs 4294967296 [M % 4294967296, M / 4294967296] := Digs.cons (by omega) (Digs.cons (by omega) (Digs.nil _))
  by_cases h : n < 0
  · obtain rfl : n = -(M : Int) := by omega
    have hw : IntKind.u64.wrap (-IntKind.u64.wrap (-(M : Int))) = (M : Int) := by rw [IntKind.wrap_u64, IntKind.wrap_u64]; omega
    have H := Lib.hid (And.intro hv hdg)
    have hMb : M ≤ 9223372036854775808 := by omega
    clear hM hv hdg
    go_enter Try.func24, Try.ntmps24
    go_wp2_with fail
    rw [show ((M : Int) % 4294967296) = ((M % 4294967296 : Nat) : Int) by omega, show ((M : Int) / 4294967296) = ((M / 4294967296 : Nat) : Int) by omega]
    obtain ⟨hv, hdg⟩ := H.out
    have hb0 := Blk.new w 42 #[.bool false, .slice none 0 0]
    have hn0 : New w ((w.alloc (.cells #[.bool false, .slice none 0 0] 42)).alloc (.cells #[.int .u32 ((M % 4294967296 : Nat) : Int), .int .u32 ((M / 4294967296 : Nat) : Int)] 81)) := ((Chg.refl _ w).alloc _).alloc _
    refine (made_wi true _ 2 2 [M % 4294967296, M / 4294967296] _ (rd_lit2 (by simp)) hdg (by omega) (by omega)).mono ?_
    rintro e w1 ⟨v, rfl, hwi, hn1⟩
    rw [hv] at hwi
    have hb1 := (hb0.alloc (.cells #[.int .u32 ((M % 4294967296 : Nat) : Int), .int .u32 ((M / 4294967296 : Nat) : Int)] 81)).chg hn1 (fun h => h)
    obtain ⟨s, A, k, c, rfl, hs, hwm⟩ := hwi
    have hc0 := hb1.cell 0 rfl
    have hc1 := hb1.cell 1 rfl
    have hf0 := hb1.frozen 0
    have hf1 := hb1.frozen 1
    have H1 := Lib.hid (And.intro hb1 (And.intro (hn0.new hn1) (And.intro hs hwm)))
    clear hv hdg hb0 hn0 hn1 hb1 hs hwm hw H
    go_wp2
    obtain ⟨hb1, hn1, hs, hwm⟩ := H1.out
    have hn2 : New w ((w1.setCell ⟨w.heap.size, 0, none⟩ (.bool s)).setCell ⟨w.heap.size, 1, none⟩ (.slice A k c)) := (hn1.setCell (fun h => absurd h (by simp)) _).setCell (fun h => absurd h (by simp)) _
    refine bodyPost_ret (res_c rfl _ rfl (aggInt.load (hb1.set2 _ _))) rfl ⟨_, rfl, ⟨s, A, k, c, rfl, hs, ?_⟩, hn2⟩
    exact hwm.store hb1 (noInt_two _ _ _ _) (Chg.at2 _ _ _ _)
  · obtain rfl : n = (M : Int) := by omega
    have hd : decide ((M : Int) < 0) = false := by simp
    have H := Lib.hid (And.intro hv hdg)
    clear hM hv hdg
    go_enter Try.func24, Try.ntmps24
    go_wp2_with fail
    rw [show ((M : Int) % 4294967296) = ((M % 4294967296 : Nat) : Int) by omega, show ((M : Int) / 4294967296) = ((M / 4294967296 : Nat) : Int) by omega]
    obtain ⟨hv, hdg⟩ := H.out
    have hb0 := Blk.new w 42 #[.bool false, .slice none 0 0]
    have hn0 : New w ((w.alloc (.cells #[.bool false, .slice none 0 0] 42)).alloc (.cells #[.int .u32 ((M % 4294967296 : Nat) : Int), .int .u32 ((M / 4294967296 : Nat) : Int)] 81)) := ((Chg.refl _ w).alloc _).alloc _
    refine (made_wi false _ 2 2 [M % 4294967296, M / 4294967296] _ (rd_lit2 (by simp)) hdg (by omega) (by omega)).mono ?_
    rintro e w1 ⟨v, rfl, hwi, hn1⟩
    rw [hv] at hwi
    have hb1 := (hb0.alloc (.cells #[.int .u32 ((M % 4294967296 : Nat) : Int), .int .u32 ((M / 4294967296 : Nat) : Int)] 81)).chg hn1 (fun h => h)
    obtain ⟨s, A, k, c, rfl, hs, hwm⟩ := hwi
    have hc0 := hb1.cell 0 rfl
    have hc1 := hb1.cell 1 rfl
    have hf0 := hb1.frozen 0
    have hf1 := hb1.frozen 1
    have H1 := Lib.hid (And.intro hb1 (And.intro (hn0.new hn1) (And.intro hs hwm)))
    clear hv hdg hb0 hn0 hn1 hb1 hs hwm H
    go_wp2
    obtain ⟨hb1, hn1, hs, hwm⟩ := H1.out
    have hn2 : New w ((w1.setCell ⟨w.heap.size, 0, none⟩ (.bool s)).setCell ⟨w.heap.size, 1, none⟩ (.slice A k c)) := (hn1.setCell (fun h => absurd h (by simp)) _).setCell (fun h => absurd h (by simp)) _
    refine bodyPost_ret (res_c rfl _ rfl (aggInt.load (hb1.set2 _ _))) rfl ⟨_, rfl, ⟨s, A, k, c, rfl, hs, ?_⟩, hn2⟩
    exact hwm.store hb1 (noInt_two _ _ _ _) (Chg.at2 _ _ _ _)
set_option maxHeartbeats 400000 in
theorem compare_any (v v' : Value) (x y : Int) (w : World) (hx : WI w v x) (hy : WI w v' y) :
    Calls Try.prog 44 #[v, v'] w fun e w' => e = .returned (.int .i64 (cmpI x y)) ∧ New w w' := by
  obtain ⟨s, A, n, c, rfl, hs, hm⟩ := hx
  obtain ⟨s', A', n', c', rfl, hs', hm'⟩ := hy
  have H := Lib.hid (And.intro hs (And.intro hm (And.intro hs' hm')))
  clear hs hs' hm hm'
  cases s <;> cases s'
  · go_enter Try.func44, Try.ntmps44
    go_wp2_with fail
    obtain ⟨hs, hm, hs', hm'⟩ := H.out
    have hn0 : New w ((w.alloc (.cells #[.bool false, .slice A n c] 42)).alloc (.cells #[.bool false, .slice A' n' c'] 42)) := ((Chg.refl _ w).alloc _).alloc _
    refine (cmpMag_any A n c A' n' c' x.natAbs y.natAbs _ (hm.new hn0) (hm'.new hn0)).mono ?_
    rintro e w1 ⟨rfl, q, hq⟩
    have h1 : ¬ x < 0 := by simpa using hs.symm
    have h2 : ¬ y < 0 := by simpa using hs'.symm
    rw [show ((x.natAbs : Nat) : Int) = x by omega, show ((y.natAbs : Nat) : Int) = y by omega]
    have H1 := Lib.hid (show New w w1 by rw [hq]; exact hn0.drewN q)
    clear hs hm hs' hm' hn0 hq h1 h2
    go_wp2
    go_ret
    exact ⟨rfl, H1.out⟩
  · go_enter Try.func44, Try.ntmps44
    go_wp2
    go_ret
    obtain ⟨hs, hm, hs', hm'⟩ := H.out
    have h1 : ¬ x < 0 := by simpa using hs.symm
    have h2 : y < 0 := by simpa using hs'.symm
    exact ⟨by rw [cmpI_gt (by omega)]; rfl, ((Chg.refl _ w).alloc _).alloc _⟩
  · go_enter Try.func44, Try.ntmps44
    go_wp2
    go_ret
    obtain ⟨hs, hm, hs', hm'⟩ := H.out
    have h1 : x < 0 := by simpa using hs.symm
    have h2 : ¬ y < 0 := by simpa using hs'.symm
    exact ⟨by rw [cmpI_lt (by omega)]; rfl, ((Chg.refl _ w).alloc _).alloc _⟩
  · go_enter Try.func44, Try.ntmps44
    go_wp2_with fail
    obtain ⟨hs, hm, hs', hm'⟩ := H.out
    have hn0 : New w ((w.alloc (.cells #[.bool true, .slice A n c] 42)).alloc (.cells #[.bool true, .slice A' n' c'] 42)) := ((Chg.refl _ w).alloc _).alloc _
    refine (cmpMag_any A' n' c' A n c y.natAbs x.natAbs _ (hm'.new hn0) (hm.new hn0)).mono ?_
    rintro e w1 ⟨rfl, q, hq⟩
    have h1 : x < 0 := by simpa using hs.symm
    have h2 : y < 0 := by simpa using hs'.symm
    rw [show cmpI ((y.natAbs : Nat) : Int) ((x.natAbs : Nat) : Int) = cmpI x y by
      rw [show ((y.natAbs : Nat) : Int) = -y by omega, show ((x.natAbs : Nat) : Int) = -x by omega]
      unfold cmpI
      repeat' split
      all_goals omega]
    have H1 := Lib.hid (show New w w1 by rw [hq]; exact hn0.drewN q)
    clear hs hm hs' hm' hn0 hq h1 h2
    go_wp2
    go_ret
    exact ⟨rfl, H1.out⟩

set_option maxHeartbeats 400000 in
theorem sign_any (v : Value) (x : Int) (w : World) (hx : WI w v x) :
    Calls Try.prog 35 #[v] w fun e w' => e = .returned (.int .i64 (cmpI x 0)) ∧ New w w' := by
  obtain ⟨s, A, n, c, rfl, hs, hm⟩ := hx
  have H := Lib.hid (And.intro hs hm)
  clear hs hm
  go_enter Try.func35, Try.ntmps35
  go_wp2_with fail
  have hn0 : New w (w.alloc (.cells #[.bool s, .slice A n c] 42)) := (Chg.refl _ w).alloc _
  refine (compare_any _ _ x 0 _ (WI.new ⟨s, A, n, c, rfl, H.out⟩ hn0) (WI.zero _)).mono ?_
  rintro e w1 ⟨rfl, hn1⟩
  have H1 := Lib.hid (hn0.new hn1)
  clear hn0 hn1
  go_wp2
  go_ret
  exact ⟨rfl, H1.out⟩

set_option maxHeartbeats 400000 in
theorem neg_any (v : Value) (x : Int) (w : World) (hx : WI w v x) :
    Calls Try.prog 65 #[v] w fun e w' => ∃ v, e = .returned v ∧ WI w' v (-x) ∧ New w w' := by
  obtain ⟨s, A, n, c, rfl, hs, l, hr, hnc, hcm, hN⟩ := hx
  have H := Lib.hid (And.intro hs (And.intro hr hN))
  clear hs hr hN
  go_enter Try.func65, Try.ntmps65
  go_wp2_with fail
  obtain ⟨hs, hr, hN⟩ := H.out
  have hb0 := Blk.new (w.alloc (.cells #[.bool s, .slice A n c] 42)) 42 #[.bool false, .slice none 0 0]
  rw [World.size_alloc] at hb0
  have hn0 : New w ((w.alloc (.cells #[.bool s, .slice A n c] 42)).alloc (.cells #[.bool false, .slice none 0 0] 42)) := ((Chg.refl _ w).alloc _).alloc _
  refine (made_wi (!s) A n c l _ (hr.new hn0) hN.digs hnc hcm).mono ?_
  rintro e w1 ⟨v, rfl, hwi, hn1⟩
  have hval : sg (!s) (val 4294967296 l) = -x := by
    rw [hN.val, hs]
    unfold sg
    by_cases h : x < 0 <;> simp [h] <;> omega
  rw [hval] at hwi
  have hb1 := hb0.chg hn1 (fun h => h)
  obtain ⟨s', A', n', c', rfl, hs', hwm⟩ := hwi
  have hc0 := hb1.cell 0 rfl
  have hc1 := hb1.cell 1 rfl
  have hf0 := hb1.frozen 0
  have hf1 := hb1.frozen 1
  have H1 := Lib.hid (And.intro hb1 (And.intro (hn0.new hn1) (And.intro hs' hwm)))
  clear hb0 hn0 hn1 hb1 hs' hwm H hs hr hN hval
  go_wp2
  obtain ⟨hb1, hn1, hs, hwm⟩ := H1.out
  refine bodyPost_ret (res_c rfl _ rfl (aggInt.load (hb1.set2 _ _))) rfl ⟨_, rfl, ⟨s', A', n', c', rfl, hs, ?_⟩, ?_⟩
  · exact hwm.store hb1 (noInt_two _ _ _ _) (Chg.at2 _ _ _ _)
  · exact Chg.owned hn1 (Chg.at2 _ _ _ _) (fun k e => by omega)
end Go.Proofs.Ytcjbndlhomokpaa
