/- The walk of refuterlaw03.WideLimits. -/
import Derived.Test.YtgofjkppeobjfaaGreatDoorB5
import Derived.Test.YtgofjkppeobjfaaGreatDoorTextNZ
import Derived.Test.YtgofjkppeobjfaaGreatDoorCutBoxZ
import Derived.Deep.CutRange
import Derived.Deep.RegionHeld3
import Derived.Test.YtgofjkppeobjfaaGreatDoorHeldZ
namespace Go.Proofs.YtgofjkppeobjfaaGreatDoor
set_option linter.unusedVariables false
open Go.RowKit Go.Mem Go.Dig

/-- Up to somewhat more than the range. -/
def Lg (z : Int) : Prop := z.natAbs < pw2 17000
theorem Lg.of {z : Int} {k : Nat} (h : z.natAbs < pw2 k) (hk : k ≤ 17000) : Lg z := Nat.lt_of_lt_of_le h (pw2_le hk)
theorem Lg.pk {z : Int} (h : Lg z) (k : Nat) (hk : 17000 ≤ k) : z.natAbs < 2 ^ k := Nat.lt_of_lt_of_le h (pw2_le hk)
theorem Lg.p9 {z : Int} (h : Lg z) : z.natAbs < 2 ^ 900000 := h.pk 900000 (by decide)
theorem Lg.p10 {z : Int} (h : Lg z) : z.natAbs < 2 ^ 1000000 := h.pk 1000000 (by decide)
theorem pw2_next (a b : Nat) (h : a + 1 = b) : pw2 b = 2 * pw2 a := by subst h; rw [pw2_add, Nat.mul_comm]; rfl
theorem nearP_le (k : Nat) : nearP k ≤ 16384 := by unfold nearP; split <;> decide
theorem nearA_dmax (k : Nat) (hk : k < 28) : (nearA k).natAbs < topN + 10000 := by
  unfold nearA
  have h : 2 ^ nearP k ≤ topN := by rw [topN_pw2]; exact pw2_le (nearP_le k)
  generalize 2 ^ nearP k = P at *
  omega
theorem near_dmax (n : Int) : (nearI n).natAbs < topN + 10000 := by
  have hr := aroundI_range n 28 (by omega)
  unfold nearI
  split
  · rw [Int.natAbs_neg]; exact nearA_dmax _ (by omega)
  · exact nearA_dmax _ (by omega)
theorem top_big : 10000 ≤ topN := by rw [topN_pw2]; exact Nat.le_trans (show 10000 ≤ pw2 14 by decide) (pw2_le (by decide))
theorem top_two' : pw2 16385 = 2 * topN := by rw [topN_pw2]; exact pw2_next 16384 16385 (by decide)
theorem near_lg (n : Int) : (nearI n).natAbs < pw2 16385 := by
  have h1 := near_dmax n
  have h2 := top_big
  rw [top_two']
  generalize topN = P at *
  omega
theorem nearP81 (t : Nat) (h : t % 4 = 2) : nearP t = 8192 := by unfold nearP; rw [h]; rfl
theorem near81 (a : Nat) (ha : a < 7) : (nearI (4 * (a : Int) + 2)).natAbs < pw2 8193 := by
  have e : 4 * (a : Int) + 2 = ((4 * a + 2 : Nat) : Int) := by omega
  have hk : aroundI ((4 * a + 2 : Nat) : Int) 28 = ((4 * a + 2 : Nat) : Int) := by rw [aroundI_pos (by omega)]; omega
  have hA : (nearA (4 * a + 2)).natAbs < pw2 8193 := by
    unfold nearA
    rw [nearP81 _ (by omega), pw2_next 8192 8193 (by decide)]
    have h1 : 8 ≤ pw2 8192 := Nat.le_trans (show 8 ≤ pw2 3 by decide) (pw2_le (by decide))
    change ((pw2 8192 : Nat) + _ : Int).natAbs < _
    generalize pw2 8192 = P at *
    omega
  rw [e]
  unfold nearI
  rw [hk, Int.toNat_natCast]
  split
  · rw [Int.natAbs_neg]; exact hA
  · exact hA
theorem wider_l (w : World) (v : Value) (z : Int) (hv : RN w v z) (hz : z.natAbs < topN) : Calls Tryz.prog 7 #[v] w (RetWV w z (.bool true)) := by
  have h := wider_any v z w hv (Nat.lt_of_lt_of_le hz (Nat.le_trans (Nat.le_add_right _ _) top_dmax)) true (by rw [(rg_in hz).2]; rfl)
  rwa [(rg_in hz).1] at h
theorem rtext_s (w : World) (v : Value) (z : Int) (b : ByteArray) (hb : St (Txt.text z) = b) (hv : RN w v z) (hz : z.natAbs < 2 ^ 1000000) : Calls Tryz.prog 21 #[v] w (RetV w (.string b)) := by
  subst hb; exact rtext_any v z w hv hz
theorem wparse_s (w : World) (z : Int) (b : ByteArray) (E : Int) (hE : rgE z = E) (hb : St (Txt.text z) = b) (hz : z.natAbs < dmax) : Calls Tryz.prog 20 #[.string b] w (RetWV w (rg z) (.int .i64 E)) := by
  subst hb hE; exact wparse_text z hz w
theorem rparse_s (w : World) (z : Int) (b : ByteArray) (E : Int) (hE : rgE z = E) (hb : St (Txt.text z) = b) (hz : z.natAbs < dmax) : Calls Tryz.prog 22 #[.string b] w (RetRV w (rg z) (.int .i64 E)) :=
  rparse_any b (Txt.text z) hb.symm (by rw [← hb, St_size]; exact text_short hz) (rg z) E (.inl ⟨z, Txt.reads_text z, rfl, hE⟩) w
theorem wadd_l (w : World) (v v' : Value) (x y E : Int) (hE : rgE (x + y) = E) (hx : WI w v x) (hy : WI w v' y) (bx : Lg x) (bY : Lg y) : Calls Tryz.prog 23 #[v, v'] w (RetWV w (rg (x + y)) (.int .i64 E)) := by
  subst hE; exact wadd_any v v' x y w hx hy bx.p10 bY.p10
theorem wsub_l (w : World) (v v' : Value) (x y E : Int) (hE : rgE (x - y) = E) (hx : WI w v x) (hy : WI w v' y) (bx : Lg x) (bY : Lg y) : Calls Tryz.prog 24 #[v, v'] w (RetWV w (rg (x - y)) (.int .i64 E)) := by
  subst hE; exact wsub_any v v' x y w hx hy bx.p10 bY.p10
theorem wmul_l (w : World) (v v' : Value) (x y E : Int) (hE : rgE (x * y) = E) (hx : WI w v x) (hy : WI w v' y) (bx : Lg x) (bY : Lg y) : Calls Tryz.prog 25 #[v, v'] w (RetWV w (rg (x * y)) (.int .i64 E)) := by
  subst hE; exact wmul_any v v' x y w hx hy bx.p10 bY.p10
theorem radd_l (w : World) (v v' : Value) (x y : Int) (hx : RN w v x) (hy : RN w v' y) (bx : Lg x) (bY : Lg y) : Calls Tryz.prog 26 #[v, v'] w (RetR w (x + y)) := radd_h v v' x y w hx hy bx.p10 bY.p10
theorem rmul_l (w : World) (v v' : Value) (x y : Int) (hx : RN w v x) (hy : RN w v' y) (bx : Lg x) (bY : Lg y) : Calls Tryz.prog 6 #[v, v'] w (RetR w (x * y)) := rmul_h v v' x y w hx hy bx.p10 bY.p10
theorem rsub_l (w : World) (v v' : Value) (x y : Int) (hx : RN w v x) (hy : RN w v' y) (bx : Lg x) (bY : Lg y) : Calls Tryz.prog 27 #[v, v'] w (RetR w (x - y)) :=
  (rsub_any v v' x y w hx hy bx.p10 bY.p10).mono fun e w' ⟨v, h1, ⟨s, A, n, c, h2, h3, h4⟩, h5⟩ => ⟨s, A, n, c, by rw [h1, h2], ⟨s, A, n, c, rfl, h3, h4⟩, h5⟩
theorem fits_s (w : World) (v : Value) (z : Int) (E : Bool) (hE : decide (z.natAbs < topN) = E) (hv : RN w v z) : Calls Tryz.prog 28 #[v] w (RetV w (.bool E)) := fits_any v z w hv E hE
theorem of_s2 (n : Int) (w : World) (h1 : -9223372036854775808 ≤ n) (h2 : n ≤ 9223372036854775807) : Calls Tryz.prog 17 #[.int .i64 n] w (RetR w n) := of_h n w h1 h2
theorem equal_l (w : World) (v v' : Value) (x : Int) (hx : WI w v x) (ha : RN w v' x) (hpt : PowTab w) (hz : x.natAbs < topN) : Calls Tryz.prog 9 #[v, v'] w (RetV w (.bool true)) :=
  equal_any v v' x x w hx ha hpt (Nat.lt_of_lt_of_le hz (Nat.le_trans (Nat.le_add_right _ _) top_dmax)) (Nat.lt_of_lt_of_le hz (Nat.le_trans (Nat.le_add_right _ _) top_dmax)) true (by simp)

set_option maxRecDepth 100000 in
set_option maxHeartbeats 40000000 in
theorem wideLimits_walk (N m k : Int) (hN1 : -9223372036854775808 ≤ N) (hN2 : N ≤ 9223372036854775807) (hm1 : -9223372036854775808 ≤ m) (hm2 : m ≤ 9223372036854775807) (hk1 : -9223372036854775808 ≤ k) (hk2 : k ≤ 9223372036854775807) (w : World) (hpt : PowTab w) :
    Calls Tryz.prog 4 #[.int .i64 N, .int .i64 m, .int .i64 k] w fun e w' => e = .returned (.bool true) ∧ New w w' := by
  have HT := Lib.hid hpt
  have hnear := fun W => near_s N W hN1 hN2
  obtain ⟨Z, hZ⟩ : ∃ Z, nearI N = Z := ⟨_, rfl⟩
  have hZd := near_dmax N
  have hZl := near_lg N
  rw [hZ] at hnear hZd hZl
  have hZm : Z.natAbs < dmax := Nat.lt_of_lt_of_le hZd top_dmax
  have hZL : Lg Z := Lg.of hZl (by decide)
  obtain ⟨E, hE⟩ : ∃ E, rgE Z = E := ⟨_, rfl⟩
  obtain ⟨B, hB⟩ : ∃ B, St (Txt.text Z) = B := ⟨_, rfl⟩
  obtain ⟨t, ht, ht1, ht2⟩ : ∃ t : Int, aroundI k (2 * 3 + 1) - 3 = t ∧ -3 ≤ t ∧ t ≤ 3 := by
    have := aroundI_range k (2 * 3 + 1) (by omega)
    exact ⟨_, rfl, by omega, by omega⟩
  have hbd : ∀ W, Calls Tryz.prog 18 #[.int .i64 k, .int .i64 3] W fun e w' => e = .returned (.int .i64 t) ∧ W = w' := fun W => ht ▸ bound1_any k 3 hk1 hk2 (by omega) (by omega) W
  have htL : t.natAbs < pw2 3 := by have : pw2 3 = 8 := rfl; omega
  have r1 := aroundI_range m 7 (by omega)
  obtain ⟨a7, ha7⟩ : ∃ a : Nat, aroundI m 7 = a := ⟨(aroundI m 7).toNat, by omega⟩
  have har := fun W => around_any m 7 W hm1 hm2 (by omega) (by omega)
  rw [ha7] at har r1
  have ha7b : a7 < 7 := by omega
  have hCb := near81 a7 ha7b
  obtain ⟨T, hT⟩ : ∃ T : Int, 4 * (a7 : Int) + 2 = T := ⟨_, rfl⟩
  have hTb : 0 ≤ T ∧ T ≤ 100 := by omega
  have hnc := fun W => near_s T W (by omega) (by omega)
  obtain ⟨C, hC⟩ : ∃ C, nearI T = C := ⟨_, rfl⟩
  rw [hT, hC] at hCb
  rw [hC] at hnc
  have hCt : C.natAbs < topN := by rw [topN_pw2]; exact Nat.lt_of_lt_of_le hCb (pw2_le (by decide))
  have hCL : Lg C := Lg.of hCb (by decide)
  have htS : Sm t := Sm.of htL (by decide)
  have htLg : Lg t := Lg.of htL (by decide)
  have HB := Lib.hid (And.intro hnear (And.intro hbd (And.intro har hnc)))
  have HZ := Lib.hid (And.intro hZm (And.intro hZL (And.intro hE hB)))
  have HC := Lib.hid (And.intro hCt (And.intro hCL (And.intro htS htLg)))
  have hEc : (E = 0 ∧ Hid (Z.natAbs < topN)) ∨ (E = 4 ∧ Hid (¬ Z.natAbs < topN)) := by
    rw [← hE]
    by_cases h : Z.natAbs < topN
    · exact .inl ⟨(rg_in h).2, h⟩
    · exact .inr ⟨(rg_out h).2, h⟩
  clear hpt hnear hZ hZd hZl hZm hZL hE hB ht hbd htL r1 ha7 har hCb hnc hC hCt hCL htS htLg hN1 hN2 hm1 hm2 hk1 hk2 hTb
  go_enter Tryz.func4, Tryz.ntmps4
  go_wp2_with fail
  refine (HB.out.1 w).mono ?_
  rintro e u1 ⟨sa, Aa, na, ca, rfl, K1⟩
  have H101 := Lib.hid K1.out.2
  go_wp2_with fail
  refine Calls.new1 ?_
  intro W2 hba hn2 hz2
  obtain ⟨ga, hga⟩ : ∃ x, u1.heap.size = x := ⟨_, rfl⟩
  rw [hga] at hba
  simp only [hga]
  have hXa : RX W2 ga sa Aa na ca (Z) := ⟨hba, K1.out.1.new hn2⟩
  have H102 := Lib.hid (And.intro hXa (H101.out.new hn2))
  clear H101
  clear hXa hba hga hn2 hz2
  refine (HB.out.2.1 _).mono ?_
  rintro e wx ⟨rfl, rfl⟩
  go_wp2_with fail
  refine (of_s2 t W2 (by omega) (by omega)).mono ?_
  rintro e u3 ⟨sb, Ab, nb, cb, rfl, K3⟩
  have H103 := Lib.hid (And.intro (H102.out.1.new K3.out.2) (H102.out.2.new K3.out.2))
  clear H102
  go_wp2_with fail
  refine Calls.new1 ?_
  intro W4 hbb hn4 hz4
  obtain ⟨gb, hgb⟩ : ∃ x, u3.heap.size = x := ⟨_, rfl⟩
  rw [hgb] at hbb
  simp only [hgb]
  have hXb : RX W4 gb sb Ab nb cb (t) := ⟨hbb, K3.out.1.new hn4⟩
  have H104 := Lib.hid (And.intro (H103.out.1.new hn4) (And.intro hXb (H103.out.2.new hn4)))
  clear H103
  clear hXb hbb hgb hn4 hz4
  refine (HB.out.2.2.1 _).mono ?_
  rintro e wx ⟨rfl, rfl⟩
  go_wp2_with fail
  refine (HB.out.2.2.2 W4).mono ?_
  rintro e u5 ⟨sc, Ac, nc, cc, rfl, K5⟩
  have H105 := Lib.hid (And.intro (H104.out.1.new K5.out.2) (And.intro (H104.out.2.1.new K5.out.2) (H104.out.2.2.new K5.out.2)))
  clear H104
  clear HB hT ha7b ht1 ht2
  have hza0 := (H105.out.1.new ((Chg.refl (fun _ => False) u5).alloc (.cells #[.bool sc, .slice Ac nc cc] 24))).c0
  have hza1 := (H105.out.1.new ((Chg.refl (fun _ => False) u5).alloc (.cells #[.bool sc, .slice Ac nc cc] 24))).c1
  go_wp2_with fail
  clear hza0 hza1
  refine Calls.new1 ?_
  intro W7 hbc hn7 hz7
  obtain ⟨gc, hgc⟩ : ∃ x, u5.heap.size = x := ⟨_, rfl⟩
  rw [hgc] at hbc
  simp only [hgc]
  have hXc : RX W7 gc sc Ac nc cc (C) := ⟨hbc, K5.out.1.new hn7⟩
  have H106 := Lib.hid (And.intro (H105.out.1.new hn7) (And.intro (H105.out.2.1.new hn7) (And.intro hXc (H105.out.2.2.new hn7))))
  clear H105
  clear hXc hbc hgc hn7 hz7
  refine (rtext_s W7 _ _ B HZ.out.2.2.2 H106.out.1.2 HZ.out.2.1.p10).mono ?_
  rintro e u6 ⟨rfl, K6⟩
  have H107 := Lib.hid (And.intro (H106.out.1.new K6.out) (And.intro (H106.out.2.1.new K6.out) (And.intro (H106.out.2.2.1.new K6.out) (H106.out.2.2.2.new K6.out))))
  clear H106
  go_wp2_with fail
  refine (wparse_s u6 Z B E HZ.out.2.2.1 HZ.out.2.2.2 HZ.out.1).mono ?_
  rintro e u8 ⟨sx, Ax, nx, cx, rfl, K8⟩
  have H108 := Lib.hid (And.intro (H107.out.1.new K8.out.2) (And.intro (H107.out.2.1.new K8.out.2) (And.intro (H107.out.2.2.1.new K8.out.2) (H107.out.2.2.2.new K8.out.2))))
  clear H107
  have hza0 := (H108.out.1.new ((Chg.refl (fun _ => False) u8).alloc (.cells #[.bool sx, .slice Ax nx cx] 29))).c0
  have hza1 := (H108.out.1.new ((Chg.refl (fun _ => False) u8).alloc (.cells #[.bool sx, .slice Ax nx cx] 29))).c1
  go_wp2_with fail
  clear hza0 hza1
  refine Calls.new1 ?_
  intro W10 hbx hn10 hz10
  obtain ⟨gx, hgx⟩ : ∃ x, u8.heap.size = x := ⟨_, rfl⟩
  rw [hgx] at hbx
  simp only [hgx]
  have hXx : WX W10 gx sx Ax nx cx (rg Z) := ⟨hbx, K8.out.1.new hn10⟩
  have H109 := Lib.hid (And.intro (H108.out.1.new hn10) (And.intro (H108.out.2.1.new hn10) (And.intro (H108.out.2.2.1.new hn10) (And.intro hXx (H108.out.2.2.2.new hn10)))))
  clear H108
  clear hXx hbx hgx hn10 hz10
  refine (rtext_s W10 _ _ B HZ.out.2.2.2 H109.out.1.2 HZ.out.2.1.p10).mono ?_
  rintro e u9 ⟨rfl, K9⟩
  have H110 := Lib.hid (And.intro (H109.out.1.new K9.out) (And.intro (H109.out.2.1.new K9.out) (And.intro (H109.out.2.2.1.new K9.out) (And.intro (H109.out.2.2.2.1.new K9.out) (H109.out.2.2.2.2.new K9.out)))))
  clear H109
  go_wp2_with fail
  refine (rparse_s u9 Z B E HZ.out.2.2.1 HZ.out.2.2.2 HZ.out.1).mono ?_
  rintro e u11 ⟨sf, Af, nf, cf, rfl, K11⟩
  have H111 := Lib.hid (And.intro (H110.out.1.new K11.out.2) (And.intro (H110.out.2.1.new K11.out.2) (And.intro (H110.out.2.2.1.new K11.out.2) (And.intro (H110.out.2.2.2.1.new K11.out.2) (H110.out.2.2.2.2.new K11.out.2)))))
  clear H110
  have hzb0 := (H111.out.2.1.new ((Chg.refl (fun _ => False) u11).alloc (.cells #[.bool sf, .slice Af nf cf] 24))).c0
  have hzb1 := (H111.out.2.1.new ((Chg.refl (fun _ => False) u11).alloc (.cells #[.bool sf, .slice Af nf cf] 24))).c1
  go_wp2_with fail
  clear hzb0 hzb1
  refine Calls.new1 ?_
  intro W13 hbf hn13 hz13
  obtain ⟨gf, hgf⟩ : ∃ x, u11.heap.size = x := ⟨_, rfl⟩
  rw [hgf] at hbf
  simp only [hgf]
  have hXf : RX W13 gf sf Af nf cf (rg Z) := ⟨hbf, K11.out.1.new hn13⟩
  have H112 := Lib.hid (And.intro (H111.out.1.new hn13) (And.intro (H111.out.2.1.new hn13) (And.intro (H111.out.2.2.1.new hn13) (And.intro (H111.out.2.2.2.1.new hn13) (And.intro hXf (H111.out.2.2.2.2.new hn13))))))
  clear H111
  clear hXf hbf hgf hn13 hz13
  refine (wider_s W13 _ _ H112.out.2.1.2 HC.out.2.2.1).mono ?_
  rintro e u12 ⟨sy, Ay, ny, cy, rfl, K12⟩
  have H113 := Lib.hid (And.intro (H112.out.1.new K12.out.2) (And.intro (H112.out.2.1.new K12.out.2) (And.intro (H112.out.2.2.1.new K12.out.2) (And.intro (H112.out.2.2.2.1.new K12.out.2) (And.intro (H112.out.2.2.2.2.1.new K12.out.2) (H112.out.2.2.2.2.2.new K12.out.2))))))
  clear H112
  have hzc0 := (H113.out.2.2.1.new ((Chg.refl (fun _ => False) u12).alloc (.cells #[.bool sy, .slice Ay ny cy] 29))).c0
  have hzc1 := (H113.out.2.2.1.new ((Chg.refl (fun _ => False) u12).alloc (.cells #[.bool sy, .slice Ay ny cy] 29))).c1
  go_wp2_with fail
  clear hzc0 hzc1
  refine Calls.new1 ?_
  intro W15 hby hn15 hz15
  obtain ⟨gy, hgy⟩ : ∃ x, u12.heap.size = x := ⟨_, rfl⟩
  rw [hgy] at hby
  simp only [hgy]
  have hXy : WX W15 gy sy Ay ny cy (t) := ⟨hby, K12.out.1.new hn15⟩
  have H114 := Lib.hid (And.intro (H113.out.1.new hn15) (And.intro (H113.out.2.1.new hn15) (And.intro (H113.out.2.2.1.new hn15) (And.intro (H113.out.2.2.2.1.new hn15) (And.intro (H113.out.2.2.2.2.1.new hn15) (And.intro hXy (H113.out.2.2.2.2.2.new hn15)))))))
  clear H113
  clear hXy hby hgy hn15 hz15
  refine (wider_l W15 _ _ H114.out.2.2.1.2 HC.out.1).mono ?_
  rintro e u14 ⟨sz, Az, nz, cz, rfl, K14⟩
  have H115 := Lib.hid (And.intro (H114.out.1.new K14.out.2) (And.intro (H114.out.2.1.new K14.out.2) (And.intro (H114.out.2.2.1.new K14.out.2) (And.intro (H114.out.2.2.2.1.new K14.out.2) (And.intro (H114.out.2.2.2.2.1.new K14.out.2) (And.intro (H114.out.2.2.2.2.2.1.new K14.out.2) (H114.out.2.2.2.2.2.2.new K14.out.2)))))))
  clear H114
  rcases hEc with ⟨rfl, HV⟩ | ⟨rfl, HV⟩
  · skip
    have hzr : rg Z = Z := (rg_in HV.out).1
    obtain ⟨E0, hE0⟩ : ∃ e, rgE (Z + t) = e := ⟨_, rfl⟩
    obtain ⟨E1, hE1⟩ : ∃ e, rgE (Z - t) = e := ⟨_, rfl⟩
    obtain ⟨E2, hE2⟩ : ∃ e, rgE (Z * t) = e := ⟨_, rfl⟩
    obtain ⟨E3, hE3⟩ : ∃ e, rgE (C * C) = e := ⟨_, rfl⟩
    have HEE := Lib.hid (And.intro hE0 (And.intro hE1 (And.intro hE2 hE3)))
    have HZR := Lib.hid hzr
    clear hE0 hE1 hE2 hE3 hzr
    have hzx0 := (H115.out.2.2.2.1.new ((Chg.refl (fun _ => False) u14).alloc (.cells #[.bool sz, .slice Az nz cz] 29))).c0
    have hzx1 := (H115.out.2.2.2.1.new ((Chg.refl (fun _ => False) u14).alloc (.cells #[.bool sz, .slice Az nz cz] 29))).c1
    have hzy0 := (H115.out.2.2.2.2.2.1.new ((Chg.refl (fun _ => False) u14).alloc (.cells #[.bool sz, .slice Az nz cz] 29))).c0
    have hzy1 := (H115.out.2.2.2.2.2.1.new ((Chg.refl (fun _ => False) u14).alloc (.cells #[.bool sz, .slice Az nz cz] 29))).c1
    go_wp2_with fail
    clear hzx0 hzx1 hzy0 hzy1
    refine Calls.new1 ?_
    intro W17 hbz hn17 hz17
    obtain ⟨gz, hgz⟩ : ∃ x, u14.heap.size = x := ⟨_, rfl⟩
    rw [hgz] at hbz
    simp only [hgz]
    have hXz : WX W17 gz sz Az nz cz (C) := ⟨hbz, K14.out.1.new hn17⟩
    have H116 := Lib.hid (And.intro (H115.out.1.new hn17) (And.intro (H115.out.2.1.new hn17) (And.intro (H115.out.2.2.1.new hn17) (And.intro (H115.out.2.2.2.1.new hn17) (And.intro (H115.out.2.2.2.2.1.new hn17) (And.intro (H115.out.2.2.2.2.2.1.new hn17) (And.intro hXz (H115.out.2.2.2.2.2.2.new hn17))))))))
    clear H115
    clear hXz hbz hgz hn17 hz17
    refine (wadd_l W17 _ _ Z t E0 HEE.out.1 (HZR.out ▸ H116.out.2.2.2.1.2) H116.out.2.2.2.2.2.1.2 HZ.out.2.1 HC.out.2.2.2).mono ?_
    rintro e u16 ⟨ss, As, ns, cs, rfl, K16⟩
    have H117 := Lib.hid (And.intro (H116.out.1.new K16.out.2) (And.intro (H116.out.2.1.new K16.out.2) (And.intro (H116.out.2.2.1.new K16.out.2) (And.intro (H116.out.2.2.2.1.new K16.out.2) (And.intro (H116.out.2.2.2.2.1.new K16.out.2) (And.intro (H116.out.2.2.2.2.2.1.new K16.out.2) (And.intro (H116.out.2.2.2.2.2.2.1.new K16.out.2) (H116.out.2.2.2.2.2.2.2.new K16.out.2))))))))
    clear H116
    have hzx0 := (H117.out.2.2.2.1.new ((Chg.refl (fun _ => False) u16).alloc (.cells #[.bool ss, .slice As ns cs] 29))).c0
    have hzx1 := (H117.out.2.2.2.1.new ((Chg.refl (fun _ => False) u16).alloc (.cells #[.bool ss, .slice As ns cs] 29))).c1
    have hzy0 := (H117.out.2.2.2.2.2.1.new ((Chg.refl (fun _ => False) u16).alloc (.cells #[.bool ss, .slice As ns cs] 29))).c0
    have hzy1 := (H117.out.2.2.2.2.2.1.new ((Chg.refl (fun _ => False) u16).alloc (.cells #[.bool ss, .slice As ns cs] 29))).c1
    go_wp2_with fail
    clear hzx0 hzx1 hzy0 hzy1
    refine Calls.new1 ?_
    intro W19 hbs hn19 hz19
    obtain ⟨gs, hgs⟩ : ∃ x, u16.heap.size = x := ⟨_, rfl⟩
    rw [hgs] at hbs
    simp only [hgs]
    have hXs : WX W19 gs ss As ns cs (rg (Z + t)) := ⟨hbs, K16.out.1.new hn19⟩
    have H118 := Lib.hid (And.intro (H117.out.1.new hn19) (And.intro (H117.out.2.1.new hn19) (And.intro (H117.out.2.2.1.new hn19) (And.intro (H117.out.2.2.2.1.new hn19) (And.intro (H117.out.2.2.2.2.1.new hn19) (And.intro (H117.out.2.2.2.2.2.1.new hn19) (And.intro (H117.out.2.2.2.2.2.2.1.new hn19) (And.intro hXs (H117.out.2.2.2.2.2.2.2.new hn19)))))))))
    clear H117
    clear hXs hbs hgs hn19 hz19
    refine (wsub_l W19 _ _ Z t E1 HEE.out.2.1 (HZR.out ▸ H118.out.2.2.2.1.2) H118.out.2.2.2.2.2.1.2 HZ.out.2.1 HC.out.2.2.2).mono ?_
    rintro e u18 ⟨su, Au, nu, cu, rfl, K18⟩
    have H119 := Lib.hid (And.intro (H118.out.1.new K18.out.2) (And.intro (H118.out.2.1.new K18.out.2) (And.intro (H118.out.2.2.1.new K18.out.2) (And.intro (H118.out.2.2.2.1.new K18.out.2) (And.intro (H118.out.2.2.2.2.1.new K18.out.2) (And.intro (H118.out.2.2.2.2.2.1.new K18.out.2) (And.intro (H118.out.2.2.2.2.2.2.1.new K18.out.2) (And.intro (H118.out.2.2.2.2.2.2.2.1.new K18.out.2) (H118.out.2.2.2.2.2.2.2.2.new K18.out.2)))))))))
    clear H118
    have hzx0 := (H119.out.2.2.2.1.new ((Chg.refl (fun _ => False) u18).alloc (.cells #[.bool su, .slice Au nu cu] 29))).c0
    have hzx1 := (H119.out.2.2.2.1.new ((Chg.refl (fun _ => False) u18).alloc (.cells #[.bool su, .slice Au nu cu] 29))).c1
    have hzy0 := (H119.out.2.2.2.2.2.1.new ((Chg.refl (fun _ => False) u18).alloc (.cells #[.bool su, .slice Au nu cu] 29))).c0
    have hzy1 := (H119.out.2.2.2.2.2.1.new ((Chg.refl (fun _ => False) u18).alloc (.cells #[.bool su, .slice Au nu cu] 29))).c1
    go_wp2_with fail
    clear hzx0 hzx1 hzy0 hzy1
    refine Calls.new1 ?_
    intro W21 hbu hn21 hz21
    obtain ⟨gu, hgu⟩ : ∃ x, u18.heap.size = x := ⟨_, rfl⟩
    rw [hgu] at hbu
    simp only [hgu]
    have hXu : WX W21 gu su Au nu cu (rg (Z - t)) := ⟨hbu, K18.out.1.new hn21⟩
    have H120 := Lib.hid (And.intro (H119.out.1.new hn21) (And.intro (H119.out.2.1.new hn21) (And.intro (H119.out.2.2.1.new hn21) (And.intro (H119.out.2.2.2.1.new hn21) (And.intro (H119.out.2.2.2.2.1.new hn21) (And.intro (H119.out.2.2.2.2.2.1.new hn21) (And.intro (H119.out.2.2.2.2.2.2.1.new hn21) (And.intro (H119.out.2.2.2.2.2.2.2.1.new hn21) (And.intro hXu (H119.out.2.2.2.2.2.2.2.2.new hn21))))))))))
    clear H119
    clear hXu hbu hgu hn21 hz21
    refine (wmul_l W21 _ _ Z t E2 HEE.out.2.2.1 (HZR.out ▸ H120.out.2.2.2.1.2) H120.out.2.2.2.2.2.1.2 HZ.out.2.1 HC.out.2.2.2).mono ?_
    rintro e u20 ⟨sp, Ap, np, cp, rfl, K20⟩
    have H121 := Lib.hid (And.intro (H120.out.1.new K20.out.2) (And.intro (H120.out.2.1.new K20.out.2) (And.intro (H120.out.2.2.1.new K20.out.2) (And.intro (H120.out.2.2.2.1.new K20.out.2) (And.intro (H120.out.2.2.2.2.1.new K20.out.2) (And.intro (H120.out.2.2.2.2.2.1.new K20.out.2) (And.intro (H120.out.2.2.2.2.2.2.1.new K20.out.2) (And.intro (H120.out.2.2.2.2.2.2.2.1.new K20.out.2) (And.intro (H120.out.2.2.2.2.2.2.2.2.1.new K20.out.2) (H120.out.2.2.2.2.2.2.2.2.2.new K20.out.2))))))))))
    clear H120
    have hzz0 := (H121.out.2.2.2.2.2.2.1.new ((Chg.refl (fun _ => False) u20).alloc (.cells #[.bool sp, .slice Ap np cp] 29))).c0
    have hzz1 := (H121.out.2.2.2.2.2.2.1.new ((Chg.refl (fun _ => False) u20).alloc (.cells #[.bool sp, .slice Ap np cp] 29))).c1
    go_wp2_with fail
    clear hzz0 hzz1
    refine Calls.new1 ?_
    intro W23 hbp hn23 hz23
    obtain ⟨gp, hgp⟩ : ∃ x, u20.heap.size = x := ⟨_, rfl⟩
    rw [hgp] at hbp
    simp only [hgp]
    have hXp : WX W23 gp sp Ap np cp (rg (Z * t)) := ⟨hbp, K20.out.1.new hn23⟩
    have H122 := Lib.hid (And.intro (H121.out.1.new hn23) (And.intro (H121.out.2.1.new hn23) (And.intro (H121.out.2.2.1.new hn23) (And.intro (H121.out.2.2.2.1.new hn23) (And.intro (H121.out.2.2.2.2.1.new hn23) (And.intro (H121.out.2.2.2.2.2.1.new hn23) (And.intro (H121.out.2.2.2.2.2.2.1.new hn23) (And.intro (H121.out.2.2.2.2.2.2.2.1.new hn23) (And.intro (H121.out.2.2.2.2.2.2.2.2.1.new hn23) (And.intro hXp (H121.out.2.2.2.2.2.2.2.2.2.new hn23)))))))))))
    clear H121
    clear hXp hbp hgp hn23 hz23
    refine (wmul_l W23 _ _ C C E3 HEE.out.2.2.2 H122.out.2.2.2.2.2.2.1.2 H122.out.2.2.2.2.2.2.1.2 HC.out.2.1 HC.out.2.1).mono ?_
    rintro e u22 ⟨sr, Ar, nr, cr, rfl, K22⟩
    have H123 := Lib.hid (And.intro (H122.out.1.new K22.out.2) (And.intro (H122.out.2.1.new K22.out.2) (And.intro (H122.out.2.2.1.new K22.out.2) (And.intro (H122.out.2.2.2.1.new K22.out.2) (And.intro (H122.out.2.2.2.2.1.new K22.out.2) (And.intro (H122.out.2.2.2.2.2.1.new K22.out.2) (And.intro (H122.out.2.2.2.2.2.2.1.new K22.out.2) (And.intro (H122.out.2.2.2.2.2.2.2.1.new K22.out.2) (And.intro (H122.out.2.2.2.2.2.2.2.2.1.new K22.out.2) (And.intro (H122.out.2.2.2.2.2.2.2.2.2.1.new K22.out.2) (H122.out.2.2.2.2.2.2.2.2.2.2.new K22.out.2)))))))))))
    clear H122
    have hzs0 := (H123.out.2.2.2.2.2.2.2.1.new ((Chg.refl (fun _ => False) u22).alloc (.cells #[.bool sr, .slice Ar nr cr] 29))).c0
    have hzs1 := (H123.out.2.2.2.2.2.2.2.1.new ((Chg.refl (fun _ => False) u22).alloc (.cells #[.bool sr, .slice Ar nr cr] 29))).c1
    have hzu0 := (H123.out.2.2.2.2.2.2.2.2.1.new ((Chg.refl (fun _ => False) u22).alloc (.cells #[.bool sr, .slice Ar nr cr] 29))).c0
    have hzu1 := (H123.out.2.2.2.2.2.2.2.2.1.new ((Chg.refl (fun _ => False) u22).alloc (.cells #[.bool sr, .slice Ar nr cr] 29))).c1
    have hzp0 := (H123.out.2.2.2.2.2.2.2.2.2.1.new ((Chg.refl (fun _ => False) u22).alloc (.cells #[.bool sr, .slice Ar nr cr] 29))).c0
    have hzp1 := (H123.out.2.2.2.2.2.2.2.2.2.1.new ((Chg.refl (fun _ => False) u22).alloc (.cells #[.bool sr, .slice Ar nr cr] 29))).c1
    go_upto_region 18 with fail
    clear hzs0 hzs1 hzu0 hzu1 hzp0 hzp1
    refine Code.new3 ?_
    intro W50 hbr hbG hbE hn50 hz50
    obtain ⟨gr, hgr⟩ : ∃ x, u22.heap.size = x := ⟨_, rfl⟩
    obtain ⟨G1, hG1⟩ : ∃ x, u22.heap.size + 1 = x := ⟨_, rfl⟩
    obtain ⟨G2, hG2⟩ : ∃ x, u22.heap.size + 1 + 1 = x := ⟨_, rfl⟩
    rw [hG1] at hbG
    rw [hG2] at hbE
    simp only [hG2]
    simp only [hG1]
    simp only [hgr]
    have HG := Lib.hid (And.intro hbG (And.intro hbE (And.intro (H123.out.2.2.2.2.2.2.2.1.new hn50).2 (And.intro (H123.out.2.2.2.2.2.2.2.2.1.new hn50).2 (And.intro (H123.out.2.2.2.2.2.2.2.2.2.1.new hn50).2 (K22.out.1.new hn50))))))
    have HABC := Lib.hid (And.intro (H123.out.1.new hn50) (And.intro (H123.out.2.1.new hn50) (And.intro (H123.out.2.2.1.new hn50) (H123.out.2.2.2.2.2.2.2.2.2.2.new hn50))))
    clear hbr hbG hbE hn50 hz50 hgr hG1 hG2 H123
    have hq0 : ∀ W', New W50 W' → Calls Tryz.prog 26 #[.agg #[.bool sa, .slice Aa na ca], .agg #[.bool sb, .slice Ab nb cb]] W' (RetR W' (Z + t)) := fun W' h => radd_l W' _ _ _ _ (HABC.out.1.new h).2 (HABC.out.2.1.new h).2 HZ.out.2.1 HC.out.2.2.2
    have hq1 : ∀ W', New W50 W' → Calls Tryz.prog 27 #[.agg #[.bool sa, .slice Aa na ca], .agg #[.bool sb, .slice Ab nb cb]] W' (RetR W' (Z - t)) := fun W' h => rsub_l W' _ _ _ _ (HABC.out.1.new h).2 (HABC.out.2.1.new h).2 HZ.out.2.1 HC.out.2.2.2
    have hq2 : ∀ W', New W50 W' → Calls Tryz.prog 6 #[.agg #[.bool sa, .slice Aa na ca], .agg #[.bool sb, .slice Ab nb cb]] W' (RetR W' (Z * t)) := fun W' h => rmul_l W' _ _ _ _ (HABC.out.1.new h).2 (HABC.out.2.1.new h).2 HZ.out.2.1 HC.out.2.2.2
    have hq3 : ∀ W', New W50 W' → Calls Tryz.prog 6 #[.agg #[.bool sc, .slice Ac nc cc], .agg #[.bool sc, .slice Ac nc cc]] W' (RetR W' (C * C)) := fun W' h => rmul_l W' _ _ _ _ (HABC.out.2.2.1.new h).2 (HABC.out.2.2.1.new h).2 HC.out.2.1 HC.out.2.1
    have HQ0 := Lib.hid hq0
    have HQ1 := Lib.hid hq1
    have HQ2 := Lib.hid hq2
    have HQ3 := Lib.hid hq3
    clear hq0 hq1 hq2 hq3
    have hsk : ∀ w', New W50 w' → w'.cell? ⟨ga, 0, none⟩ = some (.bool sa) ∧ w'.cell? ⟨ga, 1, none⟩ = some (.slice Aa na ca) ∧ w'.cell? ⟨gb, 0, none⟩ = some (.bool sb) ∧ w'.cell? ⟨gb, 1, none⟩ = some (.slice Ab nb cb) ∧ w'.cell? ⟨gc, 0, none⟩ = some (.bool sc) ∧ w'.cell? ⟨gc, 1, none⟩ = some (.slice Ac nc cc) := fun w' h => ⟨(HABC.out.1.new h).c0, (HABC.out.1.new h).c1, (HABC.out.2.1.new h).c0, (HABC.out.2.1.new h).c1, (HABC.out.2.2.1.new h).c0, (HABC.out.2.2.1.new h).c1⟩
    have HSK := Lib.hid hsk
    clear hsk
    have hN0 : New W50 W50.drew := (Chg.refl _ _).drew
    obtain ⟨hs0, hs1, hs2, hs3, hs4, hs5⟩ := HSK.out W50 (Chg.refl _ _)
    go_region_held3 (fun w' => w'.cell? ⟨ga, 0, none⟩ = some (.bool sa) ∧ w'.cell? ⟨ga, 1, none⟩ = some (.slice Aa na ca) ∧ w'.cell? ⟨gb, 0, none⟩ = some (.bool sb) ∧ w'.cell? ⟨gb, 1, none⟩ = some (.slice Ab nb cb) ∧ w'.cell? ⟨gc, 0, none⟩ = some (.bool sc) ∧ w'.cell? ⟨gc, 1, none⟩ = some (.slice Ac nc cc)) (first | exact HSK.out _ (by assumption) | exact HSK.out _ (Chg.refl _ _) | exact HSK.out _ (Chg.alloc (by assumption) _))
      (first
        | (go_at_call 26; (with_reducible refine (HQ0.out _ hN0).mono ?_); rintro e q0 ⟨sq0, Aq0, nq0, cq0, rfl, Q0⟩; have hM0 := hN0.new Q0.out.2)
        | (go_at_call 27; (with_reducible refine (HQ1.out _ hM0).mono ?_); rintro e q1 ⟨sq1, Aq1, nq1, cq1, rfl, Q1⟩; have hM1 := hM0.new Q1.out.2)
        | (go_at_call 6; (with_reducible refine (HQ2.out _ hM1).mono ?_); rintro e q2 ⟨sq2, Aq2, nq2, cq2, rfl, Q2⟩; have hM2 := hM1.new Q2.out.2)
        | (go_at_call 6; (with_reducible refine (HQ3.out _ hM2).mono ?_); rintro e q3 ⟨sq3, Aq3, nq3, cq3, rfl, Q3⟩; have hM3 := hM2.new Q3.out.2))
    rename_i hHeld
    clear hHeld hs0 hs1 hs2 hs3 hs4 hs5 HSK HQ0 HQ1 HQ2 HQ3
    have HR := Lib.hid (And.intro (Q0.out.1.new (Q1.out.2.new (Q2.out.2.new Q3.out.2))) (And.intro (Q1.out.1.new (Q2.out.2.new Q3.out.2)) (And.intro (Q2.out.1.new Q3.out.2) (And.intro Q3.out.1 hM3))))
    clear hN0 hM0 hM1 hM2 hM3 Q0 Q1 Q2 Q3
    go_wp2_with fail
    refine Code.new1 ?_
    intro W6 hb3 hn6 hz6
    obtain ⟨G3, hG3⟩ : ∃ x, q3.heap.size = x := ⟨_, rfl⟩
    rw [hG3] at hb3
    simp only [hG3]
    have hm6 := HR.out.2.2.2.2.new hn6
    have HG3 := Lib.hid (And.intro hb3 (And.intro (HR.out.1.new hn6) (And.intro (HR.out.2.1.new hn6) (And.intro (HR.out.2.2.1.new hn6) (HR.out.2.2.2.1.new hn6)))))
    have HG1 := Lib.hid (And.intro (HG.out.1.chg hm6 (fun h => h)) (And.intro (HG.out.2.1.chg hm6 (fun h => h)) (And.intro (HG.out.2.2.1.new hm6) (And.intro (HG.out.2.2.2.1.new hm6) (And.intro (HG.out.2.2.2.2.1.new hm6) (HG.out.2.2.2.2.2.new hm6))))))
    have HW6 := Lib.hid (HABC.out.2.2.2.new hm6)
    clear hb3 hn6 hz6 hm6 hG3 HG HABC HR
    go_loopw [29, 30] (fun i _ wr => ∃ j : Nat, i = .int .i64 (j : Int) ∧ j ≤ 4 ∧ Hid (New W6 wr)) (fun i _ _ => 4 - (intOf i).toNat)
    case atStart => exact ⟨0, rfl, by omega, Chg.refl _ _⟩
    case round =>
      obtain ⟨j, rfl, hj, HI⟩ := hrel
      obtain ⟨wo, rfl⟩ : ∃ wo : World, wo = wr := ⟨_, rfl⟩
      by_cases hlt : j < 4
      · obtain ⟨sj, Aj, nj, cj, z, si, Ai, ni, ci, Ej, hj0, hj1, hj2, hj3, hj4, hjr, hjw, hjE⟩ : ∃ sj Aj nj cj z si Ai ni ci Ej, (∀ w', New W6 w' → w'.cell? ⟨G3, j * 2, none⟩ = some (.bool sj)) ∧ (∀ w', New W6 w' → w'.cell? ⟨G3, j * 2 + 1, none⟩ = some (.slice Aj nj cj)) ∧ (∀ w', New W6 w' → w'.cell? ⟨G1, j * 2, none⟩ = some (.bool si)) ∧ (∀ w', New W6 w' → w'.cell? ⟨G1, j * 2 + 1, none⟩ = some (.slice Ai ni ci)) ∧ (∀ w', New W6 w' → w'.cell? ⟨G2, j, none⟩ = some (.int .i64 Ej)) ∧ RN W6 (.agg #[.bool sj, .slice Aj nj cj]) z ∧ WI W6 (.agg #[.bool si, .slice Ai ni ci]) (rg z) ∧ rgE z = Ej := by
          rcases (by omega : j = 0 ∨ j = 1 ∨ j = 2 ∨ j = 3) with rfl | rfl | rfl | rfl
          · exact ⟨_, _, _, _, _, _, _, _, _, _, fun w' h => (HG3.out.1.chg h (fun h => h)).cell 0 rfl, fun w' h => (HG3.out.1.chg h (fun h => h)).cell 1 rfl, fun w' h => (HG1.out.1.chg h (fun h => h)).cell 0 rfl, fun w' h => (HG1.out.1.chg h (fun h => h)).cell 1 rfl, fun w' h => (HG1.out.2.1.chg h (fun h => h)).cell 0 rfl, HG3.out.2.1, HG1.out.2.2.1, HEE.out.1⟩
          · exact ⟨_, _, _, _, _, _, _, _, _, _, fun w' h => (HG3.out.1.chg h (fun h => h)).cell 2 rfl, fun w' h => (HG3.out.1.chg h (fun h => h)).cell 3 rfl, fun w' h => (HG1.out.1.chg h (fun h => h)).cell 2 rfl, fun w' h => (HG1.out.1.chg h (fun h => h)).cell 3 rfl, fun w' h => (HG1.out.2.1.chg h (fun h => h)).cell 1 rfl, HG3.out.2.2.1, HG1.out.2.2.2.1, HEE.out.2.1⟩
          · exact ⟨_, _, _, _, _, _, _, _, _, _, fun w' h => (HG3.out.1.chg h (fun h => h)).cell 4 rfl, fun w' h => (HG3.out.1.chg h (fun h => h)).cell 5 rfl, fun w' h => (HG1.out.1.chg h (fun h => h)).cell 4 rfl, fun w' h => (HG1.out.1.chg h (fun h => h)).cell 5 rfl, fun w' h => (HG1.out.2.1.chg h (fun h => h)).cell 2 rfl, HG3.out.2.2.2.1, HG1.out.2.2.2.2.1, HEE.out.2.2.1⟩
          · exact ⟨_, _, _, _, _, _, _, _, _, _, fun w' h => (HG3.out.1.chg h (fun h => h)).cell 6 rfl, fun w' h => (HG3.out.1.chg h (fun h => h)).cell 7 rfl, fun w' h => (HG1.out.1.chg h (fun h => h)).cell 6 rfl, fun w' h => (HG1.out.1.chg h (fun h => h)).cell 7 rfl, fun w' h => (HG1.out.2.1.chg h (fun h => h)).cell 3 rfl, HG3.out.2.2.2.2, HG1.out.2.2.2.2.2, HEE.out.2.2.2⟩
        have HJ := Lib.hid (And.intro hj0 (And.intro hj1 (And.intro hj2 (And.intro hj3 (And.intro hj4 (And.intro hjr (And.intro hjw hjE)))))))
        have hc0 := hj0 wo HI.out
        have hc1 := hj1 wo HI.out
        have hlti : (j : Int) < 4 := by omega
        have hFc : (Ej = 0 ∧ Hid (z.natAbs < topN)) ∨ (Ej = 4 ∧ Hid (¬ z.natAbs < topN)) := by
          rw [← hjE]
          by_cases h : z.natAbs < topN
          · exact .inl ⟨(rg_in h).2, h⟩
          · exact .inr ⟨(rg_out h).2, h⟩
        clear hj0 hj1 hj2 hj3 hj4 hjr hjw hjE HG1 HG3
        go_wp2_with fail
        clear hc0 hc1
        rcases hFc with ⟨rfl, HF⟩ | ⟨rfl, HF⟩
        · refine (fits_s wo _ _ true (decide_eq_true HF.out) (HJ.out.2.2.2.2.2.1.new HI.out)).mono ?_
          rintro e u7 ⟨rfl, K7⟩
          have HN8 := Lib.hid (HI.out.new K7.out)
          clear K7 HI
          go_upto_region 23 with fail
          have hq0 : ∀ W', New u7 W' → Calls Tryz.prog 9 #[.agg #[.bool si, .slice Ai ni ci], .agg #[.bool sj, .slice Aj nj cj]] W' (RetV W' (.bool true)) := fun W' h => equal_l W' _ _ z ((rg_in HF.out).1 ▸ HJ.out.2.2.2.2.2.2.1.new (HN8.out.new h)) (HJ.out.2.2.2.2.2.1.new (HN8.out.new h)) (HT.out.new (HW6.out.new (HN8.out.new h))) HF.out
          have HQ0 := Lib.hid hq0
          clear hq0
          have hsk : ∀ w', New u7 w' → w'.cell? ⟨G3, j * 2, none⟩ = some (.bool sj) ∧ w'.cell? ⟨G3, j * 2 + 1, none⟩ = some (.slice Aj nj cj) ∧ w'.cell? ⟨G1, j * 2, none⟩ = some (.bool si) ∧ w'.cell? ⟨G1, j * 2 + 1, none⟩ = some (.slice Ai ni ci) ∧ w'.cell? ⟨G2, j, none⟩ = some (.int .i64 0) := fun w' h => ⟨HJ.out.1 _ (HN8.out.new h), HJ.out.2.1 _ (HN8.out.new h), HJ.out.2.2.1 _ (HN8.out.new h), HJ.out.2.2.2.1 _ (HN8.out.new h), HJ.out.2.2.2.2.1 _ (HN8.out.new h)⟩
          have HSK := Lib.hid hsk
          clear hsk
          have hN0 : New u7 u7.drew := (Chg.refl _ _).drew
          obtain ⟨hs0, hs1, hs2, hs3, hs4⟩ := HSK.out u7 (Chg.refl _ _)
          refine wp_region_held_drew (S := fun w' => w'.cell? ⟨G3, j * 2, none⟩ = some (.bool sj) ∧ w'.cell? ⟨G3, j * 2 + 1, none⟩ = some (.slice Aj nj cj) ∧ w'.cell? ⟨G1, j * 2, none⟩ = some (.bool si) ∧ w'.cell? ⟨G1, j * 2 + 1, none⟩ = some (.slice Ai ni ci) ∧ w'.cell? ⟨G2, j, none⟩ = some (.int .i64 0)) (by kernel_rfl) (HSK.out _ hN0) (fun hHeld => ?_)
          refine heldW (i := 0) (v := ?xv0) rfl (by kernel_rfl) (by kernel_rfl) (by kernel_rfl) (fun _ _ _ h => h) (by rfl) ?xhy0 hHeld ?xrest0
          case xhy0 => (intro w hSw; (try dsimp only at hSw); go_simp; try with_reducible rfl)
          simp only [Act.put, List.setIfInBounds_toArray, List.set_cons_zero, List.set_cons_succ]
          refine heldW (i := 1) (v := ?xv1) rfl (by kernel_rfl) (by kernel_rfl) (by kernel_rfl) (fun _ _ _ h => h) (by rfl) ?xhy1 hHeld ?xrest1
          case xhy1 => (intro w hSw; (try dsimp only at hSw); go_simp; try with_reducible rfl)
          simp only [Act.put, List.setIfInBounds_toArray, List.set_cons_zero, List.set_cons_succ]
          refine heldW (i := 2) (v := ?xv2) rfl (by kernel_rfl) (by kernel_rfl) (by kernel_rfl) (fun _ _ _ h => h) (by rfl) ?xhy2 hHeld ?xrest2
          case xhy2 => (intro w hSw; (try dsimp only at hSw); go_simp; try with_reducible rfl)
          simp only [Act.put, List.setIfInBounds_toArray, List.set_cons_zero, List.set_cons_succ]
          refine heldW (i := 3) (v := ?xv3) rfl (by kernel_rfl) (by kernel_rfl) (by kernel_rfl) (fun _ _ _ h => h) (by rfl) ?xhy3 hHeld ?xrest3
          case xhy3 => (intro w hSw; (try dsimp only at hSw); go_simp; try with_reducible rfl)
          simp only [Act.put, List.setIfInBounds_toArray, List.set_cons_zero, List.set_cons_succ]
          refine heldW (i := 4) (v := ?xv4) rfl (by kernel_rfl) (by kernel_rfl) (by kernel_rfl) (fun _ _ _ h => h) (by rfl) ?xhy4 hHeld ?xrest4
          case xhy4 => (intro w hSw; (try dsimp only at hSw); go_simp; try with_reducible rfl)
          simp only [Act.put, List.setIfInBounds_toArray, List.set_cons_zero, List.set_cons_succ]
          refine heldW (i := 5) (v := ?xv5) rfl (by kernel_rfl) (by kernel_rfl) (by kernel_rfl) (fun _ _ _ h => h) (by rfl) ?xhy5 hHeld ?xrest5
          case xhy5 => (intro w hSw; (try dsimp only at hSw); go_simp; try with_reducible rfl)
          simp only [Act.put, List.setIfInBounds_toArray, List.set_cons_zero, List.set_cons_succ]
          refine heldW (i := 6) (v := ?xv6) rfl (by kernel_rfl) (by kernel_rfl) (by kernel_rfl) (fun _ _ _ h => h) (by rfl) ?xhy6 hHeld ?xrest6
          case xhy6 => (intro w hSw; (try dsimp only at hSw); go_simp; try with_reducible rfl)
          simp only [Act.put, List.setIfInBounds_toArray, List.set_cons_zero, List.set_cons_succ]
          refine heldW (i := 7) (v := ?xv7) rfl (by kernel_rfl) (by kernel_rfl) (by kernel_rfl) (fun _ _ _ h => h) (by rfl) ?xhy7 hHeld ?xrest7
          case xhy7 => (intro w hSw; (try dsimp only at hSw); go_simp; try with_reducible rfl)
          simp only [Act.put, List.setIfInBounds_toArray, List.set_cons_zero, List.set_cons_succ]
          refine heldW (i := 8) (v := ?xv8) rfl (by kernel_rfl) (by kernel_rfl) (by kernel_rfl) (fun _ _ _ h => h) (by rfl) ?xhy8 hHeld ?xrest8
          case xhy8 => (intro w hSw; (try dsimp only at hSw); go_simp; try with_reducible rfl)
          simp only [Act.put, List.setIfInBounds_toArray, List.set_cons_zero, List.set_cons_succ]
          refine heldW (i := 9) (v := ?xv9) rfl (by kernel_rfl) (by kernel_rfl) (by kernel_rfl) (fun _ _ _ h => h) (by rfl) ?xhy9 hHeld ?xrest9
          case xhy9 => (intro w hSw; (try dsimp only at hSw); go_simp; try with_reducible rfl)
          simp only [Act.put, List.setIfInBounds_toArray, List.set_cons_zero, List.set_cons_succ]
          refine heldW (i := 10) (v := ?xv10) rfl (by kernel_rfl) (by kernel_rfl) (by kernel_rfl) (fun _ _ _ h => h) (by rfl) ?xhy10 hHeld ?xrest10
          case xhy10 => (intro w hSw; (try dsimp only at hSw); go_simp; try with_reducible rfl)
          simp only [Act.put, List.setIfInBounds_toArray, List.set_cons_zero, List.set_cons_succ]
          refine heldU (i := 11) rfl (by kernel_rfl) (by kernel_rfl) (by kernel_rfl) (fun _ _ _ h => h) (by rfl) hHeld ?_
          simp only [Act.put, List.setIfInBounds_toArray, List.set_cons_zero, List.set_cons_succ]
          refine heldU (i := 12) rfl (by kernel_rfl) (by kernel_rfl) (by kernel_rfl) (fun _ _ _ h => h) (by rfl) hHeld ?_
          simp only [Act.put, List.setIfInBounds_toArray, List.set_cons_zero, List.set_cons_succ]
          refine heldU (i := 13) rfl (by kernel_rfl) (by kernel_rfl) (by kernel_rfl) (fun _ _ _ h => h) (by rfl) hHeld ?_
          simp only [Act.put, List.setIfInBounds_toArray, List.set_cons_zero, List.set_cons_succ]
          refine heldU (i := 14) rfl (by kernel_rfl) (by kernel_rfl) (by kernel_rfl) (fun _ _ _ h => h) (by rfl) hHeld ?_
          simp only [Act.put, List.setIfInBounds_toArray, List.set_cons_zero, List.set_cons_succ]
          refine heldU (i := 15) rfl (by kernel_rfl) (by kernel_rfl) (by kernel_rfl) (fun _ _ _ h => h) (by rfl) hHeld ?_
          simp only [Act.put, List.setIfInBounds_toArray, List.set_cons_zero, List.set_cons_succ]
          refine heldU (i := 16) rfl (by kernel_rfl) (by kernel_rfl) (by kernel_rfl) (fun _ _ _ h => h) (by rfl) hHeld ?_
          simp only [Act.put, List.setIfInBounds_toArray, List.set_cons_zero, List.set_cons_succ]
          refine heldU (i := 17) rfl (by kernel_rfl) (by kernel_rfl) (by kernel_rfl) (fun _ _ _ h => h) (by rfl) hHeld ?_
          simp only [Act.put, List.setIfInBounds_toArray, List.set_cons_zero, List.set_cons_succ]
          refine heldU (i := 18) rfl (by kernel_rfl) (by kernel_rfl) (by kernel_rfl) (fun _ _ _ h => h) (by rfl) hHeld ?_
          simp only [Act.put, List.setIfInBounds_toArray, List.set_cons_zero, List.set_cons_succ]
          refine heldU (i := 19) rfl (by kernel_rfl) (by kernel_rfl) (by kernel_rfl) (fun _ _ _ h => h) (by rfl) hHeld ?_
          simp only [Act.put, List.setIfInBounds_toArray, List.set_cons_zero, List.set_cons_succ]
          refine heldU (i := 20) rfl (by kernel_rfl) (by kernel_rfl) (by kernel_rfl) (fun _ _ _ h => h) (by rfl) hHeld ?_
          simp only [Act.put, List.setIfInBounds_toArray, List.set_cons_zero, List.set_cons_succ]
          refine heldU (i := 21) rfl (by kernel_rfl) (by kernel_rfl) (by kernel_rfl) (fun _ _ _ h => h) (by rfl) hHeld ?_
          simp only [Act.put, List.setIfInBounds_toArray, List.set_cons_zero, List.set_cons_succ]
          refine heldU (i := 22) rfl (by kernel_rfl) (by kernel_rfl) (by kernel_rfl) (fun _ _ _ h => h) (by rfl) hHeld ?_
          simp only [Act.put, List.setIfInBounds_toArray, List.set_cons_zero, List.set_cons_succ]
          refine heldU (i := 23) rfl (by kernel_rfl) (by kernel_rfl) (by kernel_rfl) (fun _ _ _ h => h) (by rfl) hHeld ?_
          simp only [Act.put, List.setIfInBounds_toArray, List.set_cons_zero, List.set_cons_succ]
          refine heldW (i := 24) (v := ?xv24) rfl (by kernel_rfl) (by kernel_rfl) (by kernel_rfl) (fun _ _ _ h => h) (by rfl) ?xhy24 hHeld ?xrest24
          case xhy24 => (intro w hSw; (try dsimp only at hSw); go_simp; try with_reducible rfl)
          simp only [Act.put, List.setIfInBounds_toArray, List.set_cons_zero, List.set_cons_succ]
          refine heldW (i := 25) (v := ?xv25) rfl (by kernel_rfl) (by kernel_rfl) (by kernel_rfl) (fun _ _ _ h => h) (by rfl) ?xhy25 hHeld ?xrest25
          case xhy25 => (intro w hSw; (try dsimp only at hSw); go_simp; try with_reducible rfl)
          simp only [Act.put, List.setIfInBounds_toArray, List.set_cons_zero, List.set_cons_succ]
          refine heldW (i := 26) (v := ?xv26) rfl (by kernel_rfl) (by kernel_rfl) (by kernel_rfl) (fun _ _ _ h => h) (by rfl) ?xhy26 hHeld ?xrest26
          case xhy26 => (intro w hSw; (try dsimp only at hSw); go_simp; try with_reducible rfl)
          simp only [Act.put, List.setIfInBounds_toArray, List.set_cons_zero, List.set_cons_succ]
          refine heldW (i := 27) (v := ?xv27) rfl (by kernel_rfl) (by kernel_rfl) (by kernel_rfl) (fun _ _ _ h => h) (by rfl) ?xhy27 hHeld ?xrest27
          case xhy27 => (intro w hSw; (try dsimp only at hSw); go_simp; try with_reducible rfl)
          simp only [Act.put, List.setIfInBounds_toArray, List.set_cons_zero, List.set_cons_succ]
          refine heldW (i := 28) (v := ?xv28) rfl (by kernel_rfl) (by kernel_rfl) (by kernel_rfl) (fun _ _ _ h => h) (by rfl) ?xhy28 hHeld ?xrest28
          case xhy28 => (intro w hSw; (try dsimp only at hSw); go_simp; try with_reducible rfl)
          simp only [Act.put, List.setIfInBounds_toArray, List.set_cons_zero, List.set_cons_succ]
          refine heldW (i := 29) (v := ?xv29) rfl (by kernel_rfl) (by kernel_rfl) (by kernel_rfl) (fun _ _ _ h => h) (by rfl) ?xhy29 hHeld ?xrest29
          case xhy29 => (intro w hSw; (try dsimp only at hSw); go_simp; try with_reducible rfl)
          simp only [Act.put, List.setIfInBounds_toArray, List.set_cons_zero, List.set_cons_succ]
          refine heldW (i := 30) (v := ?xv30) rfl (by kernel_rfl) (by kernel_rfl) (by kernel_rfl) (fun _ _ _ h => h) (by rfl) ?xhy30 hHeld ?xrest30
          case xhy30 => (intro w hSw; (try dsimp only at hSw); go_simp; try with_reducible rfl)
          simp only [Act.put, List.setIfInBounds_toArray, List.set_cons_zero, List.set_cons_succ]
          refine heldW (i := 31) (v := ?xv31) rfl (by kernel_rfl) (by kernel_rfl) (by kernel_rfl) (fun _ _ _ h => h) (by rfl) ?xhy31 hHeld ?xrest31
          case xhy31 => (intro w hSw; (try dsimp only at hSw); go_simp; try with_reducible rfl)
          simp only [Act.put, List.setIfInBounds_toArray, List.set_cons_zero, List.set_cons_succ]
          refine heldW (i := 32) (v := ?xv32) rfl (by kernel_rfl) (by kernel_rfl) (by kernel_rfl) (fun _ _ _ h => h) (by rfl) ?xhy32 hHeld ?xrest32
          case xhy32 => (intro w hSw; (try dsimp only at hSw); go_simp; try with_reducible rfl)
          simp only [Act.put, List.setIfInBounds_toArray, List.set_cons_zero, List.set_cons_succ]
          refine heldW (i := 33) (v := ?xv33) rfl (by kernel_rfl) (by kernel_rfl) (by kernel_rfl) (fun _ _ _ h => h) (by rfl) ?xhy33 hHeld ?xrest33
          case xhy33 => (intro w hSw; (try dsimp only at hSw); go_simp; try with_reducible rfl)
          simp only [Act.put, List.setIfInBounds_toArray, List.set_cons_zero, List.set_cons_succ]
          refine heldW (i := 34) (v := ?xv34) rfl (by kernel_rfl) (by kernel_rfl) (by kernel_rfl) (fun _ _ _ h => h) (by rfl) ?xhy34 hHeld ?xrest34
          case xhy34 => (intro w hSw; (try dsimp only at hSw); go_simp; try with_reducible rfl)
          simp only [Act.put, List.setIfInBounds_toArray, List.set_cons_zero, List.set_cons_succ]
          refine heldW (i := 35) (v := ?xv35) rfl (by kernel_rfl) (by kernel_rfl) (by kernel_rfl) (fun _ _ _ h => h) (by rfl) ?xhy35 hHeld ?xrest35
          case xhy35 => (intro w hSw; (try dsimp only at hSw); go_simp; try with_reducible rfl)
          simp only [Act.put, List.setIfInBounds_toArray, List.set_cons_zero, List.set_cons_succ]
          refine heldW (i := 36) (v := ?xv36) rfl (by kernel_rfl) (by kernel_rfl) (by kernel_rfl) (fun _ _ _ h => h) (by rfl) ?xhy36 hHeld ?xrest36
          case xhy36 => (intro w hSw; (try dsimp only at hSw); go_simp; try with_reducible rfl)
          simp only [Act.put, List.setIfInBounds_toArray, List.set_cons_zero, List.set_cons_succ]
          refine heldC (i := 37) rfl (by kernel_rfl) (by rfl) (fun K hK => ?_)
          go_simp
          refine (HQ0.out _ hN0).mono ?_
          rintro e r0 ⟨rfl, R0⟩
          have hM0 := hN0.new R0.out
          (try go_wp2_with fail)
          refine hK.out _ _ (HSK.out _ hM0) (fun hHeld2 => ?_)
          clear hK K hHeld
          have hHeld := hHeld2
          clear hHeld2
          (try simp only [Act.put, List.setIfInBounds_toArray, List.set_cons_zero, List.set_cons_succ])
          refine heldW (i := 38) (v := ?xv38) rfl (by kernel_rfl) (by kernel_rfl) (by kernel_rfl) (fun _ _ _ h => h) (by rfl) ?xhy38 hHeld ?xrest38
          case xhy38 => (intro w hSw; (try dsimp only at hSw); go_simp; try with_reducible rfl)
          simp only [Act.put, List.setIfInBounds_toArray, List.set_cons_zero, List.set_cons_succ]
          refine heldW (i := 39) (v := ?xv39) rfl (by kernel_rfl) (by kernel_rfl) (by kernel_rfl) (fun _ _ _ h => h) (by rfl) ?xhy39 hHeld ?xrest39
          case xhy39 => (intro w hSw; (try dsimp only at hSw); go_simp; try with_reducible rfl)
          simp only [Act.put, List.setIfInBounds_toArray, List.set_cons_zero, List.set_cons_succ]
          refine heldW (i := 40) (v := ?xv40) rfl (by kernel_rfl) (by kernel_rfl) (by kernel_rfl) (fun _ _ _ h => h) (by rfl) ?xhy40 hHeld ?xrest40
          case xhy40 => (intro w hSw; (try dsimp only at hSw); go_simp; try with_reducible rfl)
          simp only [Act.put, List.setIfInBounds_toArray, List.set_cons_zero, List.set_cons_succ]
          refine wpAnyH_done (by kernel_rfl) ?_ _
          have HE := Lib.hid (HN8.out.new hM0)
          clear hs0 hs1 hs2 hs3 hs4 HSK HQ0 hN0 hM0 R0 HN8 hHeld
          go_wp2
          go_roundw
          case rel => exact ⟨j + 1, by go_num, by omega, HE.out⟩
          case measure => simp [intOf]; omega
        · refine (fits_s wo _ _ false (decide_eq_false HF.out) (HJ.out.2.2.2.2.2.1.new HI.out)).mono ?_
          rintro e u7 ⟨rfl, K7⟩
          have HN8 := Lib.hid (HI.out.new K7.out)
          clear K7 HI
          go_upto_region 23 with fail
          have hq0 : ∀ W', New u7 W' → Calls Tryz.prog 11 #[.agg #[.bool si, .slice Ai ni ci]] W' (RetV W' (.int .i64 0)) := fun W' h => sign_s W' _ 0 0 ((rg_out HF.out).1 ▸ HJ.out.2.2.2.2.2.2.1.new (HN8.out.new h)) rfl
          have HQ0 := Lib.hid hq0
          clear hq0
          have hsk : ∀ w', New u7 w' → w'.cell? ⟨G3, j * 2, none⟩ = some (.bool sj) ∧ w'.cell? ⟨G3, j * 2 + 1, none⟩ = some (.slice Aj nj cj) ∧ w'.cell? ⟨G1, j * 2, none⟩ = some (.bool si) ∧ w'.cell? ⟨G1, j * 2 + 1, none⟩ = some (.slice Ai ni ci) ∧ w'.cell? ⟨G2, j, none⟩ = some (.int .i64 4) := fun w' h => ⟨HJ.out.1 _ (HN8.out.new h), HJ.out.2.1 _ (HN8.out.new h), HJ.out.2.2.1 _ (HN8.out.new h), HJ.out.2.2.2.1 _ (HN8.out.new h), HJ.out.2.2.2.2.1 _ (HN8.out.new h)⟩
          have HSK := Lib.hid hsk
          clear hsk
          have hN0 : New u7 u7.drew := (Chg.refl _ _).drew
          obtain ⟨hs0, hs1, hs2, hs3, hs4⟩ := HSK.out u7 (Chg.refl _ _)
          refine wp_region_held_drew (S := fun w' => w'.cell? ⟨G3, j * 2, none⟩ = some (.bool sj) ∧ w'.cell? ⟨G3, j * 2 + 1, none⟩ = some (.slice Aj nj cj) ∧ w'.cell? ⟨G1, j * 2, none⟩ = some (.bool si) ∧ w'.cell? ⟨G1, j * 2 + 1, none⟩ = some (.slice Ai ni ci) ∧ w'.cell? ⟨G2, j, none⟩ = some (.int .i64 4)) (by kernel_rfl) (HSK.out _ hN0) (fun hHeld => ?_)
          refine heldW (i := 0) (v := ?yv0) rfl (by kernel_rfl) (by kernel_rfl) (by kernel_rfl) (fun _ _ _ h => h) (by rfl) ?yhy0 hHeld ?yrest0
          case yhy0 => (intro w hSw; (try dsimp only at hSw); go_simp; try with_reducible rfl)
          simp only [Act.put, List.setIfInBounds_toArray, List.set_cons_zero, List.set_cons_succ]
          refine heldW (i := 1) (v := ?yv1) rfl (by kernel_rfl) (by kernel_rfl) (by kernel_rfl) (fun _ _ _ h => h) (by rfl) ?yhy1 hHeld ?yrest1
          case yhy1 => (intro w hSw; (try dsimp only at hSw); go_simp; try with_reducible rfl)
          simp only [Act.put, List.setIfInBounds_toArray, List.set_cons_zero, List.set_cons_succ]
          refine heldW (i := 2) (v := ?yv2) rfl (by kernel_rfl) (by kernel_rfl) (by kernel_rfl) (fun _ _ _ h => h) (by rfl) ?yhy2 hHeld ?yrest2
          case yhy2 => (intro w hSw; (try dsimp only at hSw); go_simp; try with_reducible rfl)
          simp only [Act.put, List.setIfInBounds_toArray, List.set_cons_zero, List.set_cons_succ]
          refine heldW (i := 3) (v := ?yv3) rfl (by kernel_rfl) (by kernel_rfl) (by kernel_rfl) (fun _ _ _ h => h) (by rfl) ?yhy3 hHeld ?yrest3
          case yhy3 => (intro w hSw; (try dsimp only at hSw); go_simp; try with_reducible rfl)
          simp only [Act.put, List.setIfInBounds_toArray, List.set_cons_zero, List.set_cons_succ]
          refine heldW (i := 4) (v := ?yv4) rfl (by kernel_rfl) (by kernel_rfl) (by kernel_rfl) (fun _ _ _ h => h) (by rfl) ?yhy4 hHeld ?yrest4
          case yhy4 => (intro w hSw; (try dsimp only at hSw); go_simp; try with_reducible rfl)
          simp only [Act.put, List.setIfInBounds_toArray, List.set_cons_zero, List.set_cons_succ]
          refine heldW (i := 5) (v := ?yv5) rfl (by kernel_rfl) (by kernel_rfl) (by kernel_rfl) (fun _ _ _ h => h) (by rfl) ?yhy5 hHeld ?yrest5
          case yhy5 => (intro w hSw; (try dsimp only at hSw); go_simp; try with_reducible rfl)
          simp only [Act.put, List.setIfInBounds_toArray, List.set_cons_zero, List.set_cons_succ]
          refine heldW (i := 6) (v := ?yv6) rfl (by kernel_rfl) (by kernel_rfl) (by kernel_rfl) (fun _ _ _ h => h) (by rfl) ?yhy6 hHeld ?yrest6
          case yhy6 => (intro w hSw; (try dsimp only at hSw); go_simp; try with_reducible rfl)
          simp only [Act.put, List.setIfInBounds_toArray, List.set_cons_zero, List.set_cons_succ]
          refine heldW (i := 7) (v := ?yv7) rfl (by kernel_rfl) (by kernel_rfl) (by kernel_rfl) (fun _ _ _ h => h) (by rfl) ?yhy7 hHeld ?yrest7
          case yhy7 => (intro w hSw; (try dsimp only at hSw); go_simp; try with_reducible rfl)
          simp only [Act.put, List.setIfInBounds_toArray, List.set_cons_zero, List.set_cons_succ]
          refine heldW (i := 8) (v := ?yv8) rfl (by kernel_rfl) (by kernel_rfl) (by kernel_rfl) (fun _ _ _ h => h) (by rfl) ?yhy8 hHeld ?yrest8
          case yhy8 => (intro w hSw; (try dsimp only at hSw); go_simp; try with_reducible rfl)
          simp only [Act.put, List.setIfInBounds_toArray, List.set_cons_zero, List.set_cons_succ]
          refine heldW (i := 9) (v := ?yv9) rfl (by kernel_rfl) (by kernel_rfl) (by kernel_rfl) (fun _ _ _ h => h) (by rfl) ?yhy9 hHeld ?yrest9
          case yhy9 => (intro w hSw; (try dsimp only at hSw); go_simp; try with_reducible rfl)
          simp only [Act.put, List.setIfInBounds_toArray, List.set_cons_zero, List.set_cons_succ]
          refine heldW (i := 10) (v := ?yv10) rfl (by kernel_rfl) (by kernel_rfl) (by kernel_rfl) (fun _ _ _ h => h) (by rfl) ?yhy10 hHeld ?yrest10
          case yhy10 => (intro w hSw; (try dsimp only at hSw); go_simp; try with_reducible rfl)
          simp only [Act.put, List.setIfInBounds_toArray, List.set_cons_zero, List.set_cons_succ]
          refine heldW (i := 11) (v := ?yv11) rfl (by kernel_rfl) (by kernel_rfl) (by kernel_rfl) (fun _ _ _ h => h) (by rfl) ?yhy11 hHeld ?yrest11
          case yhy11 => (intro w hSw; (try dsimp only at hSw); go_simp; try with_reducible rfl)
          simp only [Act.put, List.setIfInBounds_toArray, List.set_cons_zero, List.set_cons_succ]
          refine heldW (i := 12) (v := ?yv12) rfl (by kernel_rfl) (by kernel_rfl) (by kernel_rfl) (fun _ _ _ h => h) (by rfl) ?yhy12 hHeld ?yrest12
          case yhy12 => (intro w hSw; (try dsimp only at hSw); go_simp; try with_reducible rfl)
          simp only [Act.put, List.setIfInBounds_toArray, List.set_cons_zero, List.set_cons_succ]
          refine heldW (i := 13) (v := ?yv13) rfl (by kernel_rfl) (by kernel_rfl) (by kernel_rfl) (fun _ _ _ h => h) (by rfl) ?yhy13 hHeld ?yrest13
          case yhy13 => (intro w hSw; (try dsimp only at hSw); go_simp; try with_reducible rfl)
          simp only [Act.put, List.setIfInBounds_toArray, List.set_cons_zero, List.set_cons_succ]
          refine heldW (i := 14) (v := ?yv14) rfl (by kernel_rfl) (by kernel_rfl) (by kernel_rfl) (fun _ _ _ h => h) (by rfl) ?yhy14 hHeld ?yrest14
          case yhy14 => (intro w hSw; (try dsimp only at hSw); go_simp; try with_reducible rfl)
          simp only [Act.put, List.setIfInBounds_toArray, List.set_cons_zero, List.set_cons_succ]
          refine heldW (i := 15) (v := ?yv15) rfl (by kernel_rfl) (by kernel_rfl) (by kernel_rfl) (fun _ _ _ h => h) (by rfl) ?yhy15 hHeld ?yrest15
          case yhy15 => (intro w hSw; (try dsimp only at hSw); go_simp; try with_reducible rfl)
          simp only [Act.put, List.setIfInBounds_toArray, List.set_cons_zero, List.set_cons_succ]
          refine heldW (i := 16) (v := ?yv16) rfl (by kernel_rfl) (by kernel_rfl) (by kernel_rfl) (fun _ _ _ h => h) (by rfl) ?yhy16 hHeld ?yrest16
          case yhy16 => (intro w hSw; (try dsimp only at hSw); go_simp; try with_reducible rfl)
          simp only [Act.put, List.setIfInBounds_toArray, List.set_cons_zero, List.set_cons_succ]
          refine heldW (i := 17) (v := ?yv17) rfl (by kernel_rfl) (by kernel_rfl) (by kernel_rfl) (fun _ _ _ h => h) (by rfl) ?yhy17 hHeld ?yrest17
          case yhy17 => (intro w hSw; (try dsimp only at hSw); go_simp; try with_reducible rfl)
          simp only [Act.put, List.setIfInBounds_toArray, List.set_cons_zero, List.set_cons_succ]
          refine heldW (i := 18) (v := ?yv18) rfl (by kernel_rfl) (by kernel_rfl) (by kernel_rfl) (fun _ _ _ h => h) (by rfl) ?yhy18 hHeld ?yrest18
          case yhy18 => (intro w hSw; (try dsimp only at hSw); go_simp; try with_reducible rfl)
          simp only [Act.put, List.setIfInBounds_toArray, List.set_cons_zero, List.set_cons_succ]
          refine heldW (i := 19) (v := ?yv19) rfl (by kernel_rfl) (by kernel_rfl) (by kernel_rfl) (fun _ _ _ h => h) (by rfl) ?yhy19 hHeld ?yrest19
          case yhy19 => (intro w hSw; (try dsimp only at hSw); go_simp; try with_reducible rfl)
          simp only [Act.put, List.setIfInBounds_toArray, List.set_cons_zero, List.set_cons_succ]
          refine heldW (i := 20) (v := ?yv20) rfl (by kernel_rfl) (by kernel_rfl) (by kernel_rfl) (fun _ _ _ h => h) (by rfl) ?yhy20 hHeld ?yrest20
          case yhy20 => (intro w hSw; (try dsimp only at hSw); go_simp; try with_reducible rfl)
          simp only [Act.put, List.setIfInBounds_toArray, List.set_cons_zero, List.set_cons_succ]
          refine heldC (i := 21) rfl (by kernel_rfl) (by rfl) (fun K hK => ?_)
          go_simp
          refine (HQ0.out _ hN0).mono ?_
          rintro e r0 ⟨rfl, R0⟩
          have hM0 := hN0.new R0.out
          (try go_wp2_with fail)
          refine hK.out _ _ (HSK.out _ hM0) (fun hHeld2 => ?_)
          clear hK K hHeld
          have hHeld := hHeld2
          clear hHeld2
          (try simp only [Act.put, List.setIfInBounds_toArray, List.set_cons_zero, List.set_cons_succ])
          refine heldW (i := 22) (v := ?yv22) rfl (by kernel_rfl) (by kernel_rfl) (by kernel_rfl) (fun _ _ _ h => h) (by rfl) ?yhy22 hHeld ?yrest22
          case yhy22 => (intro w hSw; (try dsimp only at hSw); go_simp; try with_reducible rfl)
          simp only [Act.put, List.setIfInBounds_toArray, List.set_cons_zero, List.set_cons_succ]
          refine heldW (i := 23) (v := ?yv23) rfl (by kernel_rfl) (by kernel_rfl) (by kernel_rfl) (fun _ _ _ h => h) (by rfl) ?yhy23 hHeld ?yrest23
          case yhy23 => (intro w hSw; (try dsimp only at hSw); go_simp; try with_reducible rfl)
          simp only [Act.put, List.setIfInBounds_toArray, List.set_cons_zero, List.set_cons_succ]
          refine heldW (i := 24) (v := ?yv24) rfl (by kernel_rfl) (by kernel_rfl) (by kernel_rfl) (fun _ _ _ h => h) (by rfl) ?yhy24 hHeld ?yrest24
          case yhy24 => (intro w hSw; (try dsimp only at hSw); go_simp; try with_reducible rfl)
          simp only [Act.put, List.setIfInBounds_toArray, List.set_cons_zero, List.set_cons_succ]
          refine heldW (i := 25) (v := ?yv25) rfl (by kernel_rfl) (by kernel_rfl) (by kernel_rfl) (fun _ _ _ h => h) (by rfl) ?yhy25 hHeld ?yrest25
          case yhy25 => (intro w hSw; (try dsimp only at hSw); go_simp; try with_reducible rfl)
          simp only [Act.put, List.setIfInBounds_toArray, List.set_cons_zero, List.set_cons_succ]
          refine heldW (i := 26) (v := ?yv26) rfl (by kernel_rfl) (by kernel_rfl) (by kernel_rfl) (fun _ _ _ h => h) (by rfl) ?yhy26 hHeld ?yrest26
          case yhy26 => (intro w hSw; (try dsimp only at hSw); go_simp; try with_reducible rfl)
          simp only [Act.put, List.setIfInBounds_toArray, List.set_cons_zero, List.set_cons_succ]
          refine heldW (i := 27) (v := ?yv27) rfl (by kernel_rfl) (by kernel_rfl) (by kernel_rfl) (fun _ _ _ h => h) (by rfl) ?yhy27 hHeld ?yrest27
          case yhy27 => (intro w hSw; (try dsimp only at hSw); go_simp; try with_reducible rfl)
          simp only [Act.put, List.setIfInBounds_toArray, List.set_cons_zero, List.set_cons_succ]
          refine heldW (i := 28) (v := ?yv28) rfl (by kernel_rfl) (by kernel_rfl) (by kernel_rfl) (fun _ _ _ h => h) (by rfl) ?yhy28 hHeld ?yrest28
          case yhy28 => (intro w hSw; (try dsimp only at hSw); go_simp; try with_reducible rfl)
          simp only [Act.put, List.setIfInBounds_toArray, List.set_cons_zero, List.set_cons_succ]
          refine heldU (i := 29) rfl (by kernel_rfl) (by kernel_rfl) (by kernel_rfl) (fun _ _ _ h => h) (by rfl) hHeld ?_
          simp only [Act.put, List.setIfInBounds_toArray, List.set_cons_zero, List.set_cons_succ]
          refine heldU (i := 30) rfl (by kernel_rfl) (by kernel_rfl) (by kernel_rfl) (fun _ _ _ h => h) (by rfl) hHeld ?_
          simp only [Act.put, List.setIfInBounds_toArray, List.set_cons_zero, List.set_cons_succ]
          refine heldU (i := 31) rfl (by kernel_rfl) (by kernel_rfl) (by kernel_rfl) (fun _ _ _ h => h) (by rfl) hHeld ?_
          simp only [Act.put, List.setIfInBounds_toArray, List.set_cons_zero, List.set_cons_succ]
          refine heldU (i := 32) rfl (by kernel_rfl) (by kernel_rfl) (by kernel_rfl) (fun _ _ _ h => h) (by rfl) hHeld ?_
          simp only [Act.put, List.setIfInBounds_toArray, List.set_cons_zero, List.set_cons_succ]
          refine heldU (i := 33) rfl (by kernel_rfl) (by kernel_rfl) (by kernel_rfl) (fun _ _ _ h => h) (by rfl) hHeld ?_
          simp only [Act.put, List.setIfInBounds_toArray, List.set_cons_zero, List.set_cons_succ]
          refine heldU (i := 34) rfl (by kernel_rfl) (by kernel_rfl) (by kernel_rfl) (fun _ _ _ h => h) (by rfl) hHeld ?_
          simp only [Act.put, List.setIfInBounds_toArray, List.set_cons_zero, List.set_cons_succ]
          refine heldU (i := 35) rfl (by kernel_rfl) (by kernel_rfl) (by kernel_rfl) (fun _ _ _ h => h) (by rfl) hHeld ?_
          simp only [Act.put, List.setIfInBounds_toArray, List.set_cons_zero, List.set_cons_succ]
          refine heldU (i := 36) rfl (by kernel_rfl) (by kernel_rfl) (by kernel_rfl) (fun _ _ _ h => h) (by rfl) hHeld ?_
          simp only [Act.put, List.setIfInBounds_toArray, List.set_cons_zero, List.set_cons_succ]
          refine heldU (i := 37) rfl (by kernel_rfl) (by kernel_rfl) (by kernel_rfl) (fun _ _ _ h => h) (by rfl) hHeld ?_
          simp only [Act.put, List.setIfInBounds_toArray, List.set_cons_zero, List.set_cons_succ]
          refine heldU (i := 38) rfl (by kernel_rfl) (by kernel_rfl) (by kernel_rfl) (fun _ _ _ h => h) (by rfl) hHeld ?_
          simp only [Act.put, List.setIfInBounds_toArray, List.set_cons_zero, List.set_cons_succ]
          refine heldW (i := 39) (v := ?yv39) rfl (by kernel_rfl) (by kernel_rfl) (by kernel_rfl) (fun _ _ _ h => h) (by rfl) ?yhy39 hHeld ?yrest39
          case yhy39 => (intro w hSw; (try dsimp only at hSw); go_simp; try with_reducible rfl)
          simp only [Act.put, List.setIfInBounds_toArray, List.set_cons_zero, List.set_cons_succ]
          refine heldW (i := 40) (v := ?yv40) rfl (by kernel_rfl) (by kernel_rfl) (by kernel_rfl) (fun _ _ _ h => h) (by rfl) ?yhy40 hHeld ?yrest40
          case yhy40 => (intro w hSw; (try dsimp only at hSw); go_simp; try with_reducible rfl)
          simp only [Act.put, List.setIfInBounds_toArray, List.set_cons_zero, List.set_cons_succ]
          refine wpAnyH_done (by kernel_rfl) ?_ _
          have HE := Lib.hid (HN8.out.new hM0)
          clear hs0 hs1 hs2 hs3 hs4 HSK HQ0 hN0 hM0 R0 HN8 hHeld
          go_wp2
          go_roundw
          case rel => exact ⟨j + 1, by go_num, by omega, HE.out⟩
          case measure => simp [intOf]; omega
      · obtain rfl : j = 4 := by omega
        have hge : decide (((4 : Nat) : Int) < 4) = false := by simp
        clear HG1 HG3
        go_wp2_with fail
        refine (lives_s wo (HT.out.new (HW6.out.new HI.out))).mono ?_
        rintro e wl ⟨rfl, KL⟩
        have HE := Lib.hid ((HW6.out.new HI.out).new KL.out)
        clear hge
        go_wp2
        go_ret
        exact ⟨rfl, HE.out⟩
  · skip
    have hx0 : rg Z = 0 := (rg_out HV.out).1
    have hzx0 := (H115.out.2.2.2.1.new ((Chg.refl (fun _ => False) u14).alloc (.cells #[.bool sz, .slice Az nz cz] 29))).c0
    have hzx1 := (H115.out.2.2.2.1.new ((Chg.refl (fun _ => False) u14).alloc (.cells #[.bool sz, .slice Az nz cz] 29))).c1
    go_wp2_with fail
    clear hzx0 hzx1
    refine Calls.new1 ?_
    intro W17 hbz hn17 hz17
    obtain ⟨gz, hgz⟩ : ∃ x, u14.heap.size = x := ⟨_, rfl⟩
    rw [hgz] at hbz
    simp only [hgz]
    have hXz : WX W17 gz sz Az nz cz (C) := ⟨hbz, K14.out.1.new hn17⟩
    have H116 := Lib.hid (And.intro (H115.out.1.new hn17) (And.intro (H115.out.2.1.new hn17) (And.intro (H115.out.2.2.1.new hn17) (And.intro (H115.out.2.2.2.1.new hn17) (And.intro (H115.out.2.2.2.2.1.new hn17) (And.intro (H115.out.2.2.2.2.2.1.new hn17) (And.intro hXz (H115.out.2.2.2.2.2.2.new hn17))))))))
    clear H115
    clear hXz hbz hgz hn17 hz17
    refine (equal_s W17 _ _ 0 (hx0 ▸ H116.out.2.2.2.1.2) (RN.zero _) (HT.out.new H116.out.2.2.2.2.2.2.2) (show Sm (0 : Int) from Sm.of (k := 1) (by decide) (by decide))).mono ?_
    rintro e u16 ⟨rfl, K16⟩
    have H117 := Lib.hid (And.intro (H116.out.1.new K16.out) (And.intro (H116.out.2.1.new K16.out) (And.intro (H116.out.2.2.1.new K16.out) (And.intro (H116.out.2.2.2.1.new K16.out) (And.intro (H116.out.2.2.2.2.1.new K16.out) (And.intro (H116.out.2.2.2.2.2.1.new K16.out) (And.intro (H116.out.2.2.2.2.2.2.1.new K16.out) (H116.out.2.2.2.2.2.2.2.new K16.out))))))))
    clear H116
    go_wp2_with fail
    refine (lives_s u16 (HT.out.new H117.out.2.2.2.2.2.2.2)).mono ?_
    rintro e u18 ⟨rfl, K18⟩
    have H118 := Lib.hid (And.intro (H117.out.1.new K18.out) (And.intro (H117.out.2.1.new K18.out) (And.intro (H117.out.2.2.1.new K18.out) (And.intro (H117.out.2.2.2.1.new K18.out) (And.intro (H117.out.2.2.2.2.1.new K18.out) (And.intro (H117.out.2.2.2.2.2.1.new K18.out) (And.intro (H117.out.2.2.2.2.2.2.1.new K18.out) (H117.out.2.2.2.2.2.2.2.new K18.out))))))))
    clear H117
    have HE := Lib.hid H118.out.2.2.2.2.2.2.2
    clear H118 hx0
    go_wp2
    go_ret
    exact ⟨rfl, HE.out⟩
end Go.Proofs.YtgofjkppeobjfaaGreatDoor
