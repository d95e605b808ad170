/- Contracts of refuterref05: Digit, digits. -/
import Derived.Test.YtcjbndlhomokpaaRefJ
import Derived.Test.YtcjbndlhomokpaaRandWord
namespace Go.Proofs.Ytcjbndlhomokpaa
set_option linter.unusedVariables false
open Go.RowKit Go.Mem Go.Dig

/-! ### the contracts with hidden facts -/
theorem of_h (z : Int) (W : World) (h1 : -9223372036854775808 ≤ z) (h2 : z ≤ 9223372036854775807) :
    Calls Try.prog 33 #[.int .i64 z] W fun e w' => ∃ s A n c, e = .returned (.agg #[.bool s, .slice A n c]) ∧ Hid (RN w' (.agg #[.bool s, .slice A n c]) z ∧ New W w') :=
  (of_any z W h1 h2).mono fun e w' ⟨v, h1, ⟨s, A, n, c, h2, h3, h4⟩, h5⟩ => ⟨s, A, n, c, by rw [h1, h2], ⟨s, A, n, c, rfl, h3, h4⟩, h5⟩
theorem rmul_h (v v' : Value) (x y : Int) (W : World) (hx : RN W v x) (hy : RN W v' y) (bx : x.natAbs < 2 ^ 1000000) (bY : y.natAbs < 2 ^ 1000000) :
    Calls Try.prog 71 #[v, v'] W fun e w' => ∃ s A n c, e = .returned (.agg #[.bool s, .slice A n c]) ∧ Hid (RN w' (.agg #[.bool s, .slice A n c]) (x * y) ∧ New W w') :=
  (rmul_any v v' x y W hx hy bx bY).mono fun e w' ⟨v, h1, ⟨s, A, n, c, h2, h3, h4⟩, h5⟩ => ⟨s, A, n, c, by rw [h1, h2], ⟨s, A, n, c, rfl, h3, h4⟩, h5⟩
theorem radd_h (v v' : Value) (x y : Int) (W : World) (hx : RN W v x) (hy : RN W v' y) (bx : x.natAbs < 2 ^ 1000000) (bY : y.natAbs < 2 ^ 1000000) :
    Calls Try.prog 73 #[v, v'] W fun e w' => ∃ s A n c, e = .returned (.agg #[.bool s, .slice A n c]) ∧ Hid (RN w' (.agg #[.bool s, .slice A n c]) (x + y) ∧ New W w') :=
  (radd_any v v' x y W hx hy bx bY).mono fun e w' ⟨v, h1, ⟨s, A, n, c, h2, h3, h4⟩, h5⟩ => ⟨s, A, n, c, by rw [h1, h2], ⟨s, A, n, c, rfl, h3, h4⟩, h5⟩
theorem power_h (k : Nat) (hk : k ≤ 100000) (W : World) :
    Calls Try.prog 52 #[.int .i64 k] W fun e w' => ∃ s A n c, e = .returned (.agg #[.bool s, .slice A n c]) ∧ Hid (RN w' (.agg #[.bool s, .slice A n c]) ((2 ^ k : Nat) : Int) ∧ New W w') :=
  (power_any k hk W).mono fun e w' ⟨v, h1, ⟨s, A, n, c, h2, h3, h4⟩, h5⟩ => ⟨s, A, n, c, by rw [h1, h2], ⟨s, A, n, c, rfl, h3, h4⟩, h5⟩

theorem pow_le2 (a b : Nat) (h : a ≤ b) : 2 ^ a ≤ 2 ^ b := Nat.pow_le_pow_right (by omega) h
theorem small_big {z : Int} (h1 : -18446744073709551616 < z) (h2 : z < 18446744073709551616) : z.natAbs < 2 ^ 1000000 :=
  Nat.lt_of_lt_of_le (show z.natAbs < 2 ^ 64 by omega) (pow_le2 64 1000000 (by decide))

set_option maxRecDepth 100000 in
set_option maxHeartbeats 4000000 in
theorem rdigit_any (d : Nat) (hd : d < 18446744073709551616) (w : World) :
    Calls Try.prog 76 #[.int .u64 d] w fun e w' => ∃ s A n c, e = .returned (.agg #[.bool s, .slice A n c]) ∧ Hid (RN w' (.agg #[.bool s, .slice A n c]) (d : Int) ∧ New w w') := by
  obtain ⟨p, hp⟩ : ∃ p, d / 4294967296 = p := ⟨_, rfl⟩
  obtain ⟨q, hq⟩ : ∃ q, d % 4294967296 = q := ⟨_, rfl⟩
  have hpi : (d : Int) / 4294967296 = (p : Int) := by omega
  have hqi : (d : Int) % 4294967296 = (q : Int) := by omega
  have hpb : p < 4294967296 := by omega
  have hqb : q < 4294967296 := by omega
  have HE : Hid ((p : Int) * 4294967296 + (q : Int) = (d : Int)) := by show _ = _; omega
  clear hp hq
  go_enter Try.func76, Try.ntmps76
  go_wp2_with fail
  refine Calls.new1 ?_
  intro W1 hb1 hn1 hz1
  refine (of_h (p : Int) W1 (by omega) (by omega)).mono ?_
  rintro e w2 ⟨s2, A2, n2, c2, rfl, H2⟩
  have HB := Lib.hid (And.intro (hb1.chg H2.out.2 (fun h => h)) (hn1.new H2.out.2))
  have hzz : w.heap.size < w2.heap.size := HB.out.1.lt
  clear hb1 hn1 hz1
  go_wp2_with fail
  refine Code.new1 ?_
  intro W hb3 hnW hzW
  have hc10 := hb3.cell 0 (u := .bool s2) rfl
  have hc11 := hb3.cell 1 (u := .slice A2 n2 c2) rfl
  have hbR := HB.out.1.chg hnW (fun h => h)
  have hc30 := hbR.cell 0 (u := .bool false) rfl
  have hc31 := hbR.cell 1 (u := .slice none 0 0) rfl
  have hf30 := hbR.frozen 0
  have hf31 := hbR.frozen 1
  have HW := Lib.hid (And.intro hb3 (And.intro hbR (And.intro (HB.out.2.new hnW) (H2.out.1.new hnW))))
  have HN0 : Hid (New W W.drew) := (Chg.refl _ W).drew
  have b1 : ((p : Nat) : Int).natAbs < 2 ^ 1000000 := small_big (by omega) (by omega)
  have b2 : (4294967296 : Int).natAbs < 2 ^ 1000000 := small_big (by omega) (by omega)
  have b3 : ((p : Int) * 4294967296).natAbs < 2 ^ 1000000 := small_big (by omega) (by omega)
  have b4 : ((q : Nat) : Int).natAbs < 2 ^ 1000000 := small_big (by omega) (by omega)
  have HBB := Lib.hid (And.intro b1 (And.intro b2 (And.intro b3 b4)))
  have g1 : (d : Int).tmod 4294967296 = (q : Int) := by rw [Int.tmod_eq_emod_of_nonneg (by omega)]; exact hqi
  have g2 : IntKind.u64.wrap (q : Int) = (q : Int) := by rw [IntKind.wrap_u64]; omega
  have g3 : IntKind.i64.wrap (q : Int) = (q : Int) := IntWalk.i64_in _ (by omega)
  clear hb3 hnW hzW hbR HB H2 b1 b2 b3 b4
  go_region_held3 (fun w' => w'.cell? ⟨w2.heap.size, 0, none⟩ = some (.bool s2) ∧ w'.cell? ⟨w2.heap.size, 1, none⟩ = some (.slice A2 n2 c2)) (first | exact ⟨by assumption, by assumption⟩ | exact ⟨far2 ha10 (by dsimp only; omega) _ _, far2 ha11 (by dsimp only; omega) _ _⟩)
    (first
      | (go_at_call 33; (with_reducible refine (of_h 4294967296 _ (by omega) (by omega)).mono ?_); rintro e w5 ⟨s5, A5, n5, c5, rfl, H5⟩; have HN5 : Hid (New W w5) := HN0.out.new H5.out.2; have hd10 := HN5.out.cell hc10 (fun h => h); have hd11 := HN5.out.cell hc11 (fun h => h))
      | (go_at_call 71; (with_reducible refine (rmul_h _ _ _ _ _ (HW.out.2.2.2.new HN5.out) H5.out.1 HBB.out.1 HBB.out.2.1).mono ?_); rintro e w6 ⟨s6, A6, n6, c6, rfl, H6⟩; have HN6 : Hid (New W w6) := HN5.out.new H6.out.2; have he10 := HN6.out.cell hc10 (fun h => h); have he11 := HN6.out.cell hc11 (fun h => h))
      | (go_at_call 33; (with_reducible refine (of_h (q : Int) _ (by omega) (by omega)).mono ?_); rintro e w7 ⟨s7, A7, n7, c7, rfl, H7⟩; have HN7 : Hid (New W w7) := HN6.out.new H7.out.2; have hg10 := HN7.out.cell hc10 (fun h => h); have hg11 := HN7.out.cell hc11 (fun h => h))
      | (go_at_call 73; (with_reducible refine (radd_h _ _ _ _ _ (H6.out.1.new H7.out.2) H7.out.1 HBB.out.2.2.1 HBB.out.2.2.2).mono ?_); rintro e w8 ⟨s8, A8, n8, c8, rfl, H8⟩; have HN8 : Hid (New W w8) := HN7.out.new H8.out.2; have ha10 := HN8.out.cell hc10 (fun h => h); have ha11 := HN8.out.cell hc11 (fun h => h); have ha30 := HN8.out.cell hc30 (fun h => h); have ha31 := HN8.out.cell hc31 (fun h => h); have hb30 := (HW.out.2.1.chg HN8.out (fun h => h)).frozen 0; have hb31 := (HW.out.2.1.chg HN8.out (fun h => h)).frozen 1))
  all_goals
    clear hc10 hc11 hc30 hc31 hf30 hf31 hd10 hd11 he10 he11 hg10 hg11 g1 g2 g3
    go_wp2
    have hb8 := HW.out.2.1.chg HN8.out (fun h => h)
    obtain ⟨hr8, hn8⟩ := H8.out
    rw [HE.out] at hr8
    refine bodyPost_ret (res_c rfl _ rfl (aggN.load (hb8.set2 _ _))) rfl ⟨s8, A8, n8, c8, rfl, hr8.store hb8 (noInt_two' _ _ _ _) (Chg.at2 _ _ _ _), ?_⟩
    exact Chg.owned (HW.out.2.2.1.new HN8.out) (Chg.at2 _ _ _ _) (fun k e => by omega)
end Go.Proofs.Ytcjbndlhomokpaa
