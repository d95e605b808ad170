/- The walk of refuterlaw07.JournalDetects. -/
import Derived.Test.YtkhbbcnaonjcbaaLives7
import Derived.Test.YtkhbbcnaonjcbaaPureDetect
import Derived.Test.YtkhbbcnaonjcbaaArgs
import Derived.Test.YtkhbbcnaonjcbaaMemSet
namespace Go.Proofs.Ytkhbbcnaonjcbaa
open Go.RowKit Go.Shelf Go.Mem Go.Pure

/-- A writer of the call's own: its blocks lie at B or behind it. -/
def OWr (B : Nat) (w : World) (g : Nat) (bo : Option Nat) (l : List UInt8) : Prop := WrAt w g bo l ∧ B ≤ g ∧ ∀ k, bo = some k → B ≤ k
theorem OWr.step {B : Nat} {w w' : World} {g : Nat} {bo bo' : Option Nat} {l l' : List UInt8} (h : OWr B w g bo l) (hB : B ≤ w.heap.size) (hw : WrAt w' g bo' l') (hb : bo' = bo ∨ ∃ k, bo' = some k ∧ w.heap.size ≤ k) : OWr B w' g bo' l' := by
  refine ⟨hw, h.2.1, fun k hk => ?_⟩
  rcases hb with h' | ⟨k', h', hk'⟩
  · exact h.2.2 k (by rw [← h']; exact hk)
  · rw [hk] at h'; cases h'; omega
theorem OWr.new {B : Nat} {w w' : World} {g : Nat} {bo : Option Nat} {l : List UInt8} (h : OWr B w g bo l) (hn : New w w') : OWr B w' g bo l := ⟨h.1.chg hn (fun h => h) (fun _ _ h => h), h.2⟩
theorem OWr.chg {B : Nat} {w0 w w' : World} {g : Nat} {bo : Option Nat} {l : List UInt8} (h : OWr B w g bo l) (hn : New w0 w) (hB : w0.heap.size ≤ B) (hc : Chg (fun k => k = g ∨ bo = some k) w w') : New w0 w' :=
  hn.trans hc (fun k hk hS => by
    rcases hS with hS | hS
    · have := h.2.1; omega
    · have := h.2.2 k hS; omega)
theorem raw_apart {A : Option Addr} {bo : Option Nat} {B : Nat} (hA : ∀ k, blk A = some k → k < B) (hb : ∀ k, bo = some k → B ≤ k) : bo = none ∨ blk A ≠ bo := by
  cases h : bo with
  | none => exact .inl rfl
  | some k => exact .inr (fun e => by have := hA k e; have := hb k h; omega)
theorem flip_byte (x : UInt8) (r : Nat) (hr : r < 8) : ∃ y : UInt8, y ≠ x ∧ bits .xor .u8 (x.toNat : Int) (2 ^ r % 256) = (y.toNat : Int) := by
  have hx := x.toNat_lt
  have h2 : 2 ^ r < 256 := Nat.pow_lt_pow_right (a := 2) (m := r) (n := 8) (by omega) hr
  have h0 : 0 < 2 ^ r := Nat.pow_pos (by omega)
  have e : (2 : Int) ^ r % 256 = ((2 ^ r : Nat) : Int) := by
    have : ((2 : Int) ^ r) = ((2 ^ r : Nat) : Int) := by simp
    rw [this]
    omega
  have hlt : x.toNat ^^^ 2 ^ r < 256 := Nat.xor_lt_two_pow (n := 8) hx h2
  refine ⟨UInt8.ofNat (x.toNat ^^^ 2 ^ r), fun h => ?_, ?_⟩
  · have h1 := congrArg UInt8.toNat h
    simp only [UInt8.toNat_ofNat'] at h1
    rw [Nat.mod_eq_of_lt hlt] at h1
    have h3 : x.toNat ^^^ 2 ^ r = x.toNat ^^^ 0 := by rw [h1, Nat.xor_zero]
    have := xor_left_inj h3
    omega
  · rw [e, u8_xor_nat _ _ hx h2]
    simp only [UInt8.toNat_ofNat']
    rw [Nat.mod_eq_of_lt hlt]
theorem uvar_zig0 : uvar (zig 0) = [0] := by rw [show zig 0 = 0 from rfl, uvar_lt (by omega)]; rfl

set_option maxHeartbeats 4000000 in
set_option maxRecDepth 100000 in
theorem journalDetects_walk (A0 : Option Addr) (n0 c0 : Nat) (b : List UInt8) (bit : Int) (w : World) (hr0 : Rd w A0 n0 (bs b)) (hc0 : n0 ≤ c0) (hm0 : c0 ≤ maxLen) (hbit : -9223372036854775808 ≤ bit ∧ bit ≤ 9223372036854775807) :
    Calls Try.prog 5 #[.slice A0 n0 c0, .int .i64 bit] w fun e w' => e = .returned (.bool true) ∧ New w w' := by
  have H0 := Lib.hid hr0
  obtain ⟨hbit1, hbit2⟩ := hbit
  have hm0' : c0 ≤ 9223372036854775807 := hm0
  clear hr0 hm0
  go_enter Try.func5, Try.ntmps5
  go_wp2_with fail
  refine (few_any A0 n0 c0 200 b w H0.out hc0 hm0' (by omega)).mono ?_
  rintro e w1 ⟨Ao, co, rfl, ho1, hn1⟩
  have hol : (b.take 200).length ≤ 200 := by simp; omega
  generalize hown : b.take 200 = own at *
  obtain ⟨no, hno⟩ : ∃ no, own.length = no := ⟨_, rfl⟩
  rw [hno] at ho1 hol ⊢
  have H1 := Lib.hid (And.intro ho1 (And.intro hn1 hno))
  clear ho1 hn1 hown hno H0
  go_wp2_with fail
  obtain ⟨ho1, hn1, hno⟩ := H1.out
  refine (frame_any 0 Ao no co own w1 (by omega) (by omega) (Rd.of_own ho1) (by omega) (fun k hk => (own_blk_le ho1 hk).2)).mono ?_
  rintro e w2 ⟨Af, cf, rfl, ho2, hn2⟩
  have hfl := frameP_len 0 own (by omega) (by omega) (by omega)
  obtain ⟨F, hF⟩ : ∃ F, frameP 0 own = F := ⟨_, rfl⟩
  rw [hF] at ho2 hfl ⊢
  obtain ⟨nf, hnf⟩ : ∃ nf, F.length = nf := ⟨_, rfl⟩
  rw [hnf] at ho2 hfl ⊢
  rw [hno] at hfl
  have H2 := Lib.hid (And.intro (own_chg ho1 hn2 (fun _ _ h => h)) (And.intro (hn1.new hn2) (And.intro ho2 (And.intro hno (And.intro hF hnf)))))
  clear ho1 hn1 ho2 hn2 hno hF hnf H1
  go_wp2_with fail
  obtain ⟨ho1, hn2, ho2, hno, hF, hnf⟩ := H2.out
  have hn3 : New w2 (w2.alloc (.cells #[.slice none 0 0] 37)) := (Chg.refl _ w2).alloc _
  have hw3 : OWr w2.heap.size (w2.alloc (.cells #[.slice none 0 0] 37)) w2.heap.size none [] := ⟨WrAt.new w2, Nat.le_refl _, fun _ h => by cases h⟩
  have hz3 : w2.heap.size ≤ (w2.alloc (.cells #[.slice none 0 0] 37)).heap.size := hn3.size
  generalize (w2.alloc (.cells #[.slice none 0 0] 37)) = w3 at *
  refine (wInt_any w2.heap.size none [] 0 w3 (by omega) (by omega) hw3.1 (by simp)).mono ?_
  rintro e w4 ⟨rfl, b4, hw4, hc4, ha4⟩
  have hw4' := hw3.step hz3 hw4 ha4
  have hn4 : New w2 w4 := hw3.chg hn3 (Nat.le_refl _) hc4
  have H4 := Lib.hid (And.intro hw4' (And.intro hn4 (And.intro ho1 (And.intro hn2 (And.intro ho2 (And.intro hno (And.intro hF hnf)))))))
  clear ho1 hn2 ho2 hno hF hnf hn3 hw3 hz3 hw4 hc4 ha4 hw4' hn4 H2
  go_wp2_with fail
  obtain ⟨hw4, hn4, ho1, hn2, ho2, hno, hF, hnf⟩ := H4.out
  have hA1 : ∀ k, blk Ao = some k → k < w2.heap.size := fun k hk => (own_blk_le ho1 hk).2
  refine (wRaw_any w2.heap.size b4 ([] ++ uvar (zig 0)) Ao no co own w4 ((Rd.of_own ho1).new hn4) (fun h => by have := hA1 _ h; omega) (raw_apart hA1 hw4.2.2) (by omega) hw4.1 (by rw [uvar_zig0]; simp)).mono ?_
  rintro e w5 ⟨rfl, b5, hw5, hc5, ha5⟩
  have hw5' := hw4.step hn4.size hw5 ha5
  have hn5 : New w2 w5 := hw4.chg hn4 (Nat.le_refl _) hc5
  have hCq : (([] ++ uvar (zig 0)) ++ (uvar no ++ own)) = coreP 0 own := by rw [← hno]; rfl
  rw [hCq] at hw5'
  have hcl := coreP_len 0 own (by omega) (by omega) (by omega)
  rw [hno] at hcl
  have hFC : frameP 0 own = uvar (coreP 0 own).length ++ (coreP 0 own ++ uvar (sumP (coreP 0 own))) := by unfold frameP rawP; rw [List.append_assoc]
  obtain ⟨C, hC⟩ : ∃ C, coreP 0 own = C := ⟨_, rfl⟩
  rw [hC] at hw5' hcl hFC
  obtain ⟨nc, hnc⟩ : ∃ nc, C.length = nc := ⟨_, rfl⟩
  rw [hnc] at hcl hFC
  have H5 := Lib.hid (And.intro hw5' (And.intro hn5 (And.intro ho1 (And.intro hn2 (And.intro ho2 (And.intro hno (And.intro hF (And.intro hnf (And.intro hC (And.intro hnc hFC))))))))))
  clear ho1 hn2 ho2 hno hF hnf hw4 hn4 hA1 hw5 hc5 ha5 hw5' hn5 hCq hFC hC hnc H4
  go_wp2_with fail
  obtain ⟨hw5, hn5, ho1, hn2, ho2, hno, hF, hnf, hC, hnc, hFC⟩ := H5.out
  refine (wDone_any w2.heap.size b5 C w5 hw5.1 (by omega)).mono ?_
  rw [hnc]
  rintro e w6 ⟨Ac, cc, rfl, ho6, hn6⟩
  have H6 := Lib.hid (And.intro ho6 (And.intro (hn5.new hn6) (And.intro hn5 (And.intro hn2 (And.intro ho2 (And.intro hno (And.intro hF (And.intro hnf (And.intro hC (And.intro hnc hFC))))))))))
  clear hw5 hn5 ho1 hn2 ho2 hno hF hnf hC hnc hFC ho6 hn6 H5
  go_wp2_with fail
  obtain ⟨ho6, hn6, hn5, hn2, ho2, hno, hF, hnf, hC, hnc, hFC⟩ := H6.out
  have hn7 : New w6 (w6.alloc (.cells #[.slice none 0 0] 37)) := (Chg.refl _ w6).alloc _
  have hw7 : OWr w6.heap.size (w6.alloc (.cells #[.slice none 0 0] 37)) w6.heap.size none [] := ⟨WrAt.new w6, Nat.le_refl _, fun _ h => by cases h⟩
  generalize (w6.alloc (.cells #[.slice none 0 0] 37)) = w7 at *
  refine (wUint_any w6.heap.size none [] nc w7 (by omega) hw7.1 (by simp)).mono ?_
  rintro e w8 ⟨rfl, b8, hw8, hc8, ha8⟩
  have hw8' := hw7.step hn7.size hw8 ha8
  have hn8 : New w6 w8 := hw7.chg hn7 (Nat.le_refl _) hc8
  rw [List.nil_append] at hw8'
  obtain ⟨na, hna⟩ : ∃ na, (uvar nc).length = na := ⟨_, rfl⟩
  have hna10 : na ≤ 10 := by have := uvar_len (n := nc) (by omega); omega
  have hnanf : na < nf := by
    have h1 := congrArg List.length hFC
    have h2 := uvar_pos (sumP C)
    rw [hF, hnf] at h1
    simp only [List.length_append] at h1
    omega
  have H8 := Lib.hid (And.intro hw8' (And.intro hn8 (And.intro ho6 (And.intro (hn2.new hn6) (And.intro ho2 (And.intro hn6 (And.intro hno (And.intro hF (And.intro hnf (And.intro hC (And.intro hnc (And.intro hFC hna))))))))))))
  clear ho6 hn6 hn5 hn2 ho2 hno hF hnf hC hnc hFC hn7 hw7 hw8 hc8 ha8 hw8' hn8 hna H6
  go_wp2_with fail
  obtain ⟨hw8, hn8, ho6, hnw8, ho2, hn6, hno, hF, hnf, hC, hnc, hFC, hna⟩ := H8.out
  refine (wDone_any w6.heap.size b8 (uvar nc) w8 hw8.1 (by omega)).mono ?_
  rw [hna]
  rintro e w9 ⟨Ad, cd, rfl, ho9, hn9⟩
  have hw9 := hw8.new hn9
  have H9 := Lib.hid (And.intro hw9 (And.intro (hn8.new hn9) (And.intro ho6 (And.intro hnw8 (And.intro ho2 (And.intro hn6 (And.intro hno (And.intro hF (And.intro hnf (And.intro hC (And.intro hnc (And.intro hFC hna))))))))))))
  clear hw8 hn8 ho6 hnw8 ho2 hn6 hno hF hnf hC hnc hFC hna ho9 hn9 hw9 H8
  go_wp2_with fail
  obtain ⟨hw9, hn9, ho6, hnw9, ho2, hn6, hno, hF, hnf, hC, hnc, hFC, hna⟩ := H9.out
  refine (wRaw_any w6.heap.size b8 (uvar nc) Ac nc cc C w9 ((Rd.of_own ho6).new hn9) (fun h => by have := (own_blk_le ho6 h).2; omega) (raw_apart (fun k hk => (own_blk_le ho6 hk).2) hw9.2.2) (by omega) hw9.1 (by omega)).mono ?_
  rintro e w10 ⟨rfl, b10, hw10, hc10, ha10⟩
  have hn10 : New w6 w10 := hw9.chg hn9 (Nat.le_refl _) hc10
  have hz0 := ((own_chg ho2 hn6 (fun _ _ h => h)))
  have ho6' := own_chg ho6 hn10 (fun _ _ h => h)
  have ho2' := own_chg hz0 hn10 (fun _ _ h => h)
  have hnw10 : New w w10 := hnw9.new hn10
  have H10 := Lib.hid (And.intro ho6' (And.intro hnw10 (And.intro ho2' (And.intro hno (And.intro hF (And.intro hnf (And.intro hC (And.intro hnc (And.intro hFC hna)))))))))
  clear hw9 hn9 ho6 hnw9 ho2 hn6 hno hF hnf hC hnc hFC hna hw10 hc10 ha10 hn10 hz0 ho6' ho2' hnw10 H9
  go_wp2_with fail
  refine (around_any bit (8 * ((nf : Int) - na)) w10 hbit1 hbit2 (by omega) (by omega)).mono ?_
  rintro e w11 ⟨rfl, rfl⟩
  have hrange := aroundI_range bit (8 * ((nf : Int) - na)) (by omega)
  obtain ⟨K, hK⟩ : ∃ K : Nat, aroundI bit (8 * ((nf : Int) - na)) = (K : Int) := ⟨_, (Int.toNat_of_nonneg hrange.1).symm⟩
  rw [hK] at hrange ⊢
  obtain ⟨q, r, hqr, hr8⟩ : ∃ q r : Nat, K = 8 * q + r ∧ r < 8 := ⟨K / 8, K % 8, by omega, by omega⟩
  subst hqr
  have hp : na + q < nf := by omega
  clear hK hrange
  go_wp2_with fail
  obtain ⟨ho6, hnw, ho2, hno, hF, hnf, hC, hnc, hFC, hna⟩ := H10.out
  refine (few_any Af nf cf nf F w10 (Rd.of_own ho2) (own_cap ho2).1 (own_cap ho2).2 (by omega)).mono ?_
  rw [List.take_of_length_le (by omega), hnf]
  rintro e w12 ⟨At, ct, rfl, ho12, hn12⟩
  obtain ⟨gt, rfl, hgt1, hgt2, hfz⟩ := own_form ho12 (by omega)
  have hct := own_cap ho12
  have hct1 := hct.1
  have hct2 : ct ≤ 9223372036854775807 := hct.2
  obtain ⟨x, hx⟩ : ∃ x, F[na + q]? = some x := ⟨_, List.getElem?_eq_getElem (by omega)⟩
  have hcell : w12.cell? ⟨gt, na + q, none⟩ = some (.int .u8 (x.toNat : Int)) := own_cell ho12 (by simp [bs, By, hx])
  have hfz' := hfz (na + q)
  have hxb := x.toNat_lt
  have H12 := Lib.hid (And.intro ho6 (And.intro hgt1 (And.intro ho2 (And.intro ho12 (And.intro hn12 (And.intro hnw (And.intro hx (And.intro hno (And.intro hF (And.intro hnf (And.intro hC (And.intro hnc (And.intro hFC hna)))))))))))))
  clear ho6 hnw ho2 hno hF hnf hC hnc hFC hna ho12 hn12 hgt1 hfz hct hx H10
  obtain ⟨p, hpq⟩ : ∃ p, na + q = p := ⟨_, rfl⟩
  have hpi : (na : Int) + (q : Int) = (p : Int) := by omega
  have hdiv : (8 * (q : Int) + (r : Int)) / 8 = (q : Int) := by omega
  have hmod : (8 * (q : Int) + (r : Int)) % 8 = (r : Int) := by omega
  rw [hpq] at hp hcell hfz'
  go_wp2_with fail
  obtain ⟨ho6, hgt1, ho2, ho12, hn12, hnw, hx, hno, hF, hnf, hC, hnc, hFC, hna⟩ := H12.out
  obtain ⟨y, hyx, hy⟩ := flip_byte x r hr8
  rw [hy]
  have hn13 : New w10 (w12.setCell ⟨gt, p, none⟩ (.int .u8 (y.toNat : Int))) := hn12.setCell (fun h => by have h' : gt < w10.heap.size := h; omega) _
  have ho13 := own_set ho12 p (.int .u8 (y.toNat : Int)) hp
  rw [show (bs F).set p (.int .u8 (y.toNat : Int)) = bs (F.set p y) by unfold bs; rw [List.map_set]; rfl] at ho13
  generalize (w12.setCell ⟨gt, p, none⟩ (.int .u8 (y.toNat : Int))) = w13 at *
  have hsc : scanC (F.set p y) 0 = [] := by
    rw [← hF]
    exact scan_detect (c0 := x) (by omega) (by rw [hC, hnc, hna]; omega) (by rw [hF, ← hpq]; exact hx) hyx
  refine (scan_any _ nf ct (F.set p y) w13 (Rd.of_own ho13) (by omega) hct1 hct2 (fun k hk => (own_blk_le ho13 hk).2)).mono ?_
  rw [hsc, framesP_nil]
  rintro e w14 ⟨A14, n14, c14, vs14, rfl, ho14, hls14, hn14⟩
  have hn14l : n14 = 0 := by have h1 := ho14.1; have h2 := hls14.1; rw [List.length_nil] at h2; omega
  subst hn14l
  have hn14w : New w10 w14 := hn13.new hn14
  have H14 := Lib.hid (And.intro (own_chg ho6 hn14w (fun _ _ h => h)) (And.intro (own_chg ho2 hn14w (fun _ _ h => h)) (And.intro (hnw.new hn14w) (And.intro hno (And.intro hF (And.intro hnf (And.intro hC (And.intro hnc hFC))))))))
  clear ho6 hgt1 ho2 ho12 hn12 hnw hx hno hF hnf hC hnc hFC hna hyx hy hn13 ho13 hsc ho14 hls14 hn14 hn14w hcell hfz' hdiv hmod hpi hpq H12
  go_wp2_with fail
  obtain ⟨ho6, ho2, hnw, hno, hF, hnf, hC, hnc, hFC⟩ := H14.out
  have hsc : scanC F 0 = [own] := by rw [← hF]; exact scan_one own (by omega)
  have hcf := own_cap ho2
  refine (scan_any Af nf cf F w14 (Rd.of_own ho2) (by omega) hcf.1 hcf.2 (fun k hk => (own_blk_le ho2 hk).2)).mono ?_
  rw [hsc]
  have hfl1 : (framesP 0 [own]).length = nf := by rw [show framesP 0 [own] = frameP ((0 : Nat) : Int) own ++ framesP 1 [] from rfl, framesP_nil, List.append_nil, show frameP ((0 : Nat) : Int) own = F from hF, hnf]
  rw [hfl1]
  rintro e w15 ⟨A15, n15, c15, vs15, rfl, ho15, hls15, hn15⟩
  have hn15l : n15 = 1 := by have h1 := ho15.1; have h2 := hls15.1; simp at h1 h2; omega
  subst hn15l
  have H15 := Lib.hid (And.intro (own_chg ho6 hn15 (fun _ _ h => h)) (And.intro (own_chg ho2 hn15 (fun _ _ h => h)) (And.intro (hnw.new hn15) (And.intro hno (And.intro hF (And.intro hnf (And.intro hC (And.intro hnc hFC))))))))
  clear ho6 ho2 hnw hno hF hnf hC hnc hFC hsc hcf hfl1 ho15 hls15 hn15 H14
  go_wp2_with fail
  obtain ⟨ho6, ho2, hnw, hno, hF, hnf, hC, hnc, hFC⟩ := H15.out
  refine (read_any Af nf cf F w15 (Rd.of_own ho2) (by omega)).mono ?_
  rintro e w16 ⟨g, bo, rfl, hrd, hn16, hg16, hbo⟩
  have H16 := Lib.hid (And.intro (own_chg ho6 hn16 (fun _ _ h => h)) (And.intro (hnw.new hn16) (And.intro hrd (And.intro hg16 (And.intro ho6 (And.intro hnw (And.intro hn16 (And.intro hno (And.intro hF (And.intro hnf (And.intro hC (And.intro hnc hFC))))))))))))
  clear ho6 ho2 hnw hno hF hnf hC hnc hFC hrd hn16 hg16 hbo H15
  go_wp2_with fail
  obtain ⟨ho6, hnw, hrd, hg16, ho6', hnw', hn16, hno, hF, hnf, hC, hnc, hFC⟩ := H16.out
  refine (rRaw_any g bo F 0 w16 hrd (by omega)).mono ?_
  have hraw : rawR F 0 = (C, uvar (sumP C), 0) := by
    rw [← hF, hFC, ← hnc, ← List.append_assoc]
    exact rawR_rawP C _ (by omega)
  rw [hraw]
  rintro e w17 ⟨A17, n17, c17, rfl, ho17, hrd17, hc17⟩
  have hn17l : n17 = nc := by have h1 := ho17.1; rw [bs_length, hnc] at h1; omega
  subst hn17l
  have hglt : g < w16.heap.size := by
    obtain ⟨_, _, _, hb, _⟩ := hrd
    exact hb.lt
  have hn17 : New w15 w17 := hn16.trans hc17 (fun k hk h => by omega)
  have H17 := Lib.hid (And.intro (own_chg ho6' hn17 (fun _ _ h => h)) (And.intro (hnw'.new hn17) (And.intro hrd17 (And.intro ho17 (And.intro hn17 (And.intro ho6' (And.intro hnw' hg16)))))))
  have hc18 := own_cap ho17
  clear ho6 hnw hrd hg16 ho6' hnw' hn16 hno hF hnf hC hnc hFC hraw ho17 hrd17 hc17 hn17 H16
  go_wp2_with fail
  obtain ⟨ho6, hnw, hrd, ho17, hn17, ho6', hnw', hg16⟩ := H17.out
  refine (rUint_any g bo (uvar (sumP C)) 0 w17 hrd).mono ?_
  have hu : uintR (uvar (sumP C)) 0 = (sumP C, [], 0) := by
    have := uintR_uvar (sumP_lt C) []
    rwa [List.append_nil] at this
  rw [hu]
  rintro e w18 ⟨rfl, hrd18, hc18'⟩
  have hn18 : New w15 w18 := hn17.trans hc18' (fun k hk h => by omega)
  have hg17 : ∀ k, blk A17 = some k → k ≠ g := fun k hk => by
    have := (own_blk_le ho17 hk).1
    omega
  have ho18 := own_chg ho17 hc18' hg17
  have hlt18 := sumP_lt C
  have hsumq := bytesI_toNat C
  generalize hS : sumP C = S at *
  have H18 := Lib.hid (And.intro (own_chg ho6' hn18 (fun _ _ h => h)) (And.intro (hnw'.new hn18) (And.intro hrd18 (And.intro ho18 hsumq))))
  clear ho6 hnw hrd ho17 hn17 ho6' hnw' hg16 hu hrd18 hc18' hn18 hg17 ho18 hS hsumq H17
  go_wp2_with fail
  obtain ⟨ho6, hnw, hrd, ho18, hsumq⟩ := H18.out
  refine (rEnd_any g bo [] 0 w18 hrd).mono ?_
  rintro e w19 ⟨rfl, rfl⟩
  rw [show endR [] 0 = 0 from rfl]
  clear ho6 hnw hrd ho18 hsumq
  go_wp2_with fail
  obtain ⟨ho6, hnw, hrd, ho18, hsumq⟩ := H18.out
  refine (sameBytes_any A17 Ac n17 n17 c17 cc C C w18 (Rd.of_own ho18) (Rd.of_own ho6) (by omega) (by omega)).mono ?_
  rintro e w20 ⟨rfl, hn20⟩
  rw [show decide (C = C) = true by simp]
  have H20 := Lib.hid (And.intro (own_chg ho6 hn20 (fun _ _ h => h)) (And.intro (hnw.new hn20) hsumq))
  clear ho6 hnw hrd ho18 hsumq hn20 H18
  go_wp2_with fail
  obtain ⟨ho6, hnw, hsumq⟩ := H20.out
  refine (hbytes_any ⟨#[101, 110, 116, 114, 121]⟩ (by decide) Ac n17 cc C w20 (Rd.of_own ho6) (by omega) (fun k hk => (own_blk_le ho6 hk).2)).mono ?_
  rintro e w21 ⟨rfl, hn21⟩
  rw [show bytesI (ByteArray.mk #[101, 110, 116, 114, 121]).data.toList C = (S : Int) from hsumq]
  have H21 := Lib.hid (hnw.new hn21)
  clear ho6 hnw hsumq hn21 H20
  go_wp2_with fail
  refine (lives_any _).mono ?_
  rintro e w22 ⟨rfl, hn22⟩
  have H22 := Lib.hid (H21.out.new hn22)
  clear hn22
  go_wp2
  go_ret
  exact ⟨rfl, H22.out⟩
end Go.Proofs.Ytkhbbcnaonjcbaa
