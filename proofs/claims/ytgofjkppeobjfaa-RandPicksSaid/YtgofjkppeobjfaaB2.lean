/- The parts WideD, WideE, WideF, WideG, BigA, BigB, RefA of the proof, in one text. -/
import Derived.Deep.RegionHeld3
import Derived.Deep.RegionWith
import Derived.Laws.CopyOwn
import Derived.Test.YtgofjkppeobjfaaB1
set_option linter.unusedSimpArgs false
set_option linter.unusedVariables false

namespace Go.Proofs.Ytgofjkppeobjfaa
set_option linter.unusedVariables false
open Go.RowKit Go.Mem Go.Dig

/-- The amounts in range lie below this one. -/
def powN (k : Nat) : Nat := 4294967296 ^ k
def topN : Nat := powN 512
/-- What is returned for z, and the error. -/
def rg (z : Int) : Int := if z.natAbs < topN then z else 0
def rgE (z : Int) : Int := if z.natAbs < topN then 0 else 4
theorem rg_in {z : Int} (h : z.natAbs < topN) : rg z = z ∧ rgE z = 0 := by unfold rg rgE; rw [if_pos h, if_pos h]; exact ⟨rfl, rfl⟩
theorem rg_out {z : Int} (h : ¬ z.natAbs < topN) : rg z = 0 ∧ rgE z = 4 := by unfold rg rgE; rw [if_neg h, if_neg h]; exact ⟨rfl, rfl⟩
theorem WM.powN {w : World} {A : Option Addr} {n c m : Nat} (h : WM w A n c m) (k : Nat) : n ≤ k ↔ m < powN k :=
  ⟨fun hn => h.lt (k := k) hn, fun hm => h.len (k := k) hm⟩
theorem WM.top {w : World} {A : Option Addr} {n c m : Nat} (h : WM w A n c m) : n ≤ 512 ↔ m < topN := h.powN 512

set_option maxRecDepth 100000 in
set_option maxHeartbeats 2000000 in
theorem ranged_any (s : Bool) (A : Option Addr) (n c : Nat) (l : List Nat) (w : World) (hr : Rd w A n (nv .u32 l)) (hd : Digs 4294967296 l) (hnc : n ≤ c) (hc : c ≤ 9223372036854775807) :
    Calls Try.prog 59 #[.bool s, .slice A n c] w fun e w' => ∃ s' A' n' c', e = .returned (.tuple #[.agg #[.bool s', .slice A' n' c'], .int .i64 (rgE (sg s (val 4294967296 l)))]) ∧ Hid (WI w' (.agg #[.bool s', .slice A' n' c']) (rg (sg s (val 4294967296 l))) ∧ New w w') := by
  obtain ⟨z, hz⟩ : ∃ z, sg s (val 4294967296 l) = z := ⟨_, rfl⟩
  rw [hz]
  have H0 := Lib.hid (And.intro hr (And.intro hd hz))
  clear hr hd hz
  obtain ⟨ER, hER⟩ : ∃ ER, rgE z = ER := ⟨_, rfl⟩
  obtain ⟨RG, hRG⟩ : ∃ RG, rg z = RG := ⟨_, rfl⟩
  rw [hER, hRG]
  have HE := Lib.hid (And.intro hER hRG)
  clear hER hRG
  go_enter Try.func59, Try.ntmps59
  go_wp2_with fail
  refine Calls.new1 ?_
  intro W1 hb1 hn1 hz1
  refine (made_wi s A n c l W1 (H0.out.1.new hn1) H0.out.2.1 hnc hc).mono ?_
  rintro e w2 ⟨v2, rfl, ⟨s2, A2, n2, c2, rfl, hs2, hm2⟩, hn2⟩
  rw [H0.out.2.2] at hs2 hm2
  have hb2 := hb1.chg hn2 (fun h => h)
  have k0 := hb2.cell 0 (u := .bool false) rfl
  have k1 := hb2.cell 1 (u := .slice none 0 0) rfl
  have f0 := hb2.frozen 0
  have f1 := hb2.frozen 1
  have hl2 : w.heap.size < w2.heap.size := hb2.lt
  have H2 := Lib.hid (And.intro hb2 (And.intro (hn1.new hn2) (And.intro hs2 hm2)))
  have htop := hm2.top
  clear hb1 hn1 hz1 hs2 hm2 hn2 hb2
  by_cases h5 : n2 ≤ 512
  · have hv := rg_in (htop.1 h5)
    rw [HE.out.1, HE.out.2] at hv
    obtain ⟨hv1, hv2⟩ := hv
    have HV := Lib.hid (And.intro hv1 hv2)
    have hd5 : decide ((512 : Int) < (n2 : Int)) = false := by simp; omega
    clear hv1 hv2 htop
    go_wp2
    obtain ⟨hb2, hn2, hs2, hm2⟩ := H2.out
    have hfin := (hb2.set2 (.bool s2) (.slice A2 n2 c2)).alloc (.cells #[.bool s2, .slice A2 n2 c2] 37)
    refine bodyPost_ret (res_ct rfl _ rfl (aggInt.load hfin) rfl) rfl ⟨s2, A2, n2, c2, by rw [HV.out.2]; rfl, ?_, ?_⟩
    · rw [HV.out.1]
      exact ⟨s2, A2, n2, c2, rfl, hs2, (hm2.store hb2 (noInt_two _ _ _ _) (Chg.at2 _ _ _ _)).new ((Chg.refl _ _).alloc _)⟩
    · exact (Chg.owned hn2 (Chg.at2 _ _ _ _) (fun k e => by omega)).alloc _
  · have hv := rg_out (fun h => h5 (htop.2 h))
    rw [HE.out.1, HE.out.2] at hv
    obtain ⟨hv1, hv2⟩ := hv
    have HV := Lib.hid (And.intro hv1 hv2)
    have hd5 : (512 : Int) < (n2 : Int) := by omega
    clear hv1 hv2 htop
    go_wp2
    obtain ⟨hb2, hn2, hs2, hm2⟩ := H2.out
    have hfin := (hb2.set2 (.bool false) (.slice none 0 0)).alloc (.cells #[.bool s2, .slice A2 n2 c2] 37)
    refine bodyPost_ret (res_ct rfl _ rfl (aggInt.load hfin) rfl) rfl ⟨false, none, 0, 0, by rw [HV.out.2]; rfl, ?_, ?_⟩
    · rw [HV.out.1]
      exact WI.zero _
    · exact (Chg.owned hn2 (Chg.at2 _ _ _ _) (fun k e => by omega)).alloc _
theorem ranged_wm (s : Bool) (A : Option Addr) (n c m : Nat) (w : World) (h : WM w A n c m) :
    Calls Try.prog 59 #[.bool s, .slice A n c] w fun e w' => ∃ s' A' n' c', e = .returned (.tuple #[.agg #[.bool s', .slice A' n' c'], .int .i64 (rgE (sg s m))]) ∧ Hid (WI w' (.agg #[.bool s', .slice A' n' c']) (rg (sg s m)) ∧ New w w') := by
  obtain ⟨l, hr, hnc, hc, hN⟩ := h
  have := ranged_any s A n c l w hr hN.digs hnc hc
  rwa [hN.val] at this

theorem bz_wlen {w : World} {A : Option Addr} {n c : Nat} {z : Int} (h : WM w A n c z.natAbs) {k : Nat} (hk : z.natAbs < 2 ^ k) : n ≤ k :=
  h.len (Nat.lt_of_lt_of_le hk (Nat.pow_le_pow_left (by omega) k))
theorem sg_mulW' (s t : Bool) (a b : Nat) : sg (s != t) (a * b : Nat) = sg s a * sg t b := by
  cases s <;> cases t <;> simp [sg, Int.neg_mul, Int.mul_neg]

set_option maxRecDepth 100000 in
set_option maxHeartbeats 2000000 in
theorem wmul_wm (s s' b : Bool) (hb : (s, s', b) = (false, false, false) ∨ (s, s', b) = (false, true, true) ∨ (s, s', b) = (true, false, true) ∨ (s, s', b) = (true, true, false)) (A : Option Addr) (n c : Nat) (A' : Option Addr) (n' c' : Nat) (X Y : Nat) (z : Int) (hz : sg b (X * Y : Nat) = z) (w : World) (hm : WM w A n c X) (hm' : WM w A' n' c' Y) (hn : n ≤ 1000000) (hn' : n' ≤ 1000000) :
    Calls Try.prog 37 #[.agg #[.bool s, .slice A n c], .agg #[.bool s', .slice A' n' c']] w fun e w' => ∃ s A n c, e = .returned (.tuple #[.agg #[.bool s, .slice A n c], .int .i64 (rgE z)]) ∧ Hid (WI w' (.agg #[.bool s, .slice A n c]) (rg z) ∧ New w w') := by
  have H0 := Lib.hid (And.intro hm (And.intro hm' hz))
  clear hm hm' hz
  rcases hb with hb | hb | hb | hb
  · injection hb with hb1 hb2
    injection hb2 with hb2 hb3
    subst hb1 hb2 hb3
    go_enter Try.func37, Try.ntmps37
    go_wp2_with fail
    refine Code.new3 ?_
    intro W hb1 hb2 hb3 hnW hzW
    have hc10 := hb1.cell 0 (u := .bool false) rfl
    have hc11 := hb1.cell 1 (u := .slice A n c) rfl
    have hc20 := hb2.cell 0 (u := .bool false) rfl
    have hc21 := hb2.cell 1 (u := .slice A' n' c') rfl
    have hc30 := hb3.cell 0 (u := .bool false) rfl
    have hc31 := hb3.cell 1 (u := .slice none 0 0) rfl
    have hf30 := hb3.frozen 0
    have hf31 := hb3.frozen 1
    have hmul : ∀ W', New W W' → Calls Try.prog 60 #[.slice A n c, .slice A' n' c'] W' fun e w' => ∃ R m d, e = .returned (.slice R m d) ∧ Hid (WM w' R m d (X * Y)) ∧ Hid (New W w') := fun W' h =>
      (mulMag_any A n c A' n' c' _ _ W' (H0.out.1.new (hnW.new h)) (H0.out.2.1.new (hnW.new h)) hn hn').mono fun e w' ⟨R, m, d, h1, h2⟩ => ⟨R, m, d, h1, h2.out.1, h.new h2.out.2.2⟩
    have hran : ∀ R m d W', Hid (WM W' R m d (X * Y)) → Calls Try.prog 59 #[.bool false, .slice R m d] W' fun e w' => ∃ s' A' n' c', e = .returned (.tuple #[.agg #[.bool s', .slice A' n' c'], .int .i64 (rgE z)]) ∧ Hid (WI w' (.agg #[.bool s', .slice A' n' c']) (rg z)) ∧ Hid (New W' w') := fun R m d W' h => by
      have := ranged_wm false R m d _ W' h.out
      rw [H0.out.2.2] at this
      exact this.mono fun e w' ⟨s5, A5, n5, c5, h1, h2⟩ => ⟨s5, A5, n5, c5, h1, h2.out.1, h2.out.2⟩
    have HP := Lib.hid hmul
    have HR := Lib.hid hran
    have HB := Lib.hid (And.intro hb1 (And.intro hb2 (And.intro hb3 hnW)))
    clear hmul hran hb1 hb2 hb3 hnW
    go_region_held3 (fun w' => w'.cell? ⟨w.heap.size, 0, none⟩ = some (.bool false) ∧ w'.cell? ⟨w.heap.size, 1, none⟩ = some (.slice A n c) ∧ w'.cell? ⟨w.heap.size + 1, 0, none⟩ = some (.bool false) ∧ w'.cell? ⟨w.heap.size + 1, 1, none⟩ = some (.slice A' n' c')) (first | exact ⟨by assumption, by assumption, by assumption, by assumption⟩ | exact ⟨far2 he10 (by dsimp only; omega) _ _, far2 he11 (by dsimp only; omega) _ _, far2 he20 (by dsimp only; omega) _ _, far2 he21 (by dsimp only; omega) _ _⟩)
      (first
        | (go_at_call 60; refine (HP.out _ ?_).mono ?_; exact (Chg.refl _ _).drew; rintro e w5 ⟨R, k, d, rfl, HO5, HN5⟩; have hd10 := HN5.out.cell hc10 (fun h => h); have hd11 := HN5.out.cell hc11 (fun h => h); have hd20 := HN5.out.cell hc20 (fun h => h); have hd21 := HN5.out.cell hc21 (fun h => h); have hd30 := HN5.out.cell hc30 (fun h => h); have hd31 := HN5.out.cell hc31 (fun h => h))
        | (go_at_call 59; refine (HR.out _ _ _ _ HO5).mono ?_; rintro e w6 ⟨s6, A6, n6, c6, rfl, H6, HN6⟩; have he10 := HN6.out.cell hd10 (fun h => h); have he11 := HN6.out.cell hd11 (fun h => h); have he20 := HN6.out.cell hd20 (fun h => h); have he21 := HN6.out.cell hd21 (fun h => h); have he30 := HN6.out.cell hd30 (fun h => h); have he31 := HN6.out.cell hd31 (fun h => h); have hh30 := ((HB.out.2.2.1.chg HN5.out (fun h => h)).chg HN6.out (fun h => h)).frozen 0; have hh31 := ((HB.out.2.2.1.chg HN5.out (fun h => h)).chg HN6.out (fun h => h)).frozen 1))
    all_goals
      clear hc10 hc11 hc20 hc21 hc30 hc31 hf30 hf31 hd10 hd11 hd20 hd21 hd30 hd31
      go_wp2
      have hb6 := (HB.out.2.2.1.chg HN5.out (fun h => h)).chg HN6.out (fun h => h)
      refine bodyPost_ret (res_ct rfl _ rfl (aggInt.load (hb6.set2 _ _)) rfl) rfl ⟨s6, A6, n6, c6, rfl, H6.out.store hb6 (noInt_two _ _ _ _) (Chg.at2 _ _ _ _), ?_⟩
      exact Chg.owned (HB.out.2.2.2.new (HN5.out.new HN6.out)) (Chg.at2 _ _ _ _) (fun k e => by omega)
  · injection hb with hb1 hb2
    injection hb2 with hb2 hb3
    subst hb1 hb2 hb3
    go_enter Try.func37, Try.ntmps37
    go_wp2_with fail
    refine Code.new3 ?_
    intro W hb1 hb2 hb3 hnW hzW
    have hc10 := hb1.cell 0 (u := .bool false) rfl
    have hc11 := hb1.cell 1 (u := .slice A n c) rfl
    have hc20 := hb2.cell 0 (u := .bool true) rfl
    have hc21 := hb2.cell 1 (u := .slice A' n' c') rfl
    have hc30 := hb3.cell 0 (u := .bool false) rfl
    have hc31 := hb3.cell 1 (u := .slice none 0 0) rfl
    have hf30 := hb3.frozen 0
    have hf31 := hb3.frozen 1
    have hmul : ∀ W', New W W' → Calls Try.prog 60 #[.slice A n c, .slice A' n' c'] W' fun e w' => ∃ R m d, e = .returned (.slice R m d) ∧ Hid (WM w' R m d (X * Y)) ∧ Hid (New W w') := fun W' h =>
      (mulMag_any A n c A' n' c' _ _ W' (H0.out.1.new (hnW.new h)) (H0.out.2.1.new (hnW.new h)) hn hn').mono fun e w' ⟨R, m, d, h1, h2⟩ => ⟨R, m, d, h1, h2.out.1, h.new h2.out.2.2⟩
    have hran : ∀ R m d W', Hid (WM W' R m d (X * Y)) → Calls Try.prog 59 #[.bool true, .slice R m d] W' fun e w' => ∃ s' A' n' c', e = .returned (.tuple #[.agg #[.bool s', .slice A' n' c'], .int .i64 (rgE z)]) ∧ Hid (WI w' (.agg #[.bool s', .slice A' n' c']) (rg z)) ∧ Hid (New W' w') := fun R m d W' h => by
      have := ranged_wm true R m d _ W' h.out
      rw [H0.out.2.2] at this
      exact this.mono fun e w' ⟨s5, A5, n5, c5, h1, h2⟩ => ⟨s5, A5, n5, c5, h1, h2.out.1, h2.out.2⟩
    have HP := Lib.hid hmul
    have HR := Lib.hid hran
    have HB := Lib.hid (And.intro hb1 (And.intro hb2 (And.intro hb3 hnW)))
    clear hmul hran hb1 hb2 hb3 hnW
    go_region_held3 (fun w' => w'.cell? ⟨w.heap.size, 0, none⟩ = some (.bool false) ∧ w'.cell? ⟨w.heap.size, 1, none⟩ = some (.slice A n c) ∧ w'.cell? ⟨w.heap.size + 1, 0, none⟩ = some (.bool true) ∧ w'.cell? ⟨w.heap.size + 1, 1, none⟩ = some (.slice A' n' c')) (first | exact ⟨by assumption, by assumption, by assumption, by assumption⟩ | exact ⟨far2 he10 (by dsimp only; omega) _ _, far2 he11 (by dsimp only; omega) _ _, far2 he20 (by dsimp only; omega) _ _, far2 he21 (by dsimp only; omega) _ _⟩)
      (first
        | (go_at_call 60; refine (HP.out _ ?_).mono ?_; exact (Chg.refl _ _).drew; rintro e w5 ⟨R, k, d, rfl, HO5, HN5⟩; have hd10 := HN5.out.cell hc10 (fun h => h); have hd11 := HN5.out.cell hc11 (fun h => h); have hd20 := HN5.out.cell hc20 (fun h => h); have hd21 := HN5.out.cell hc21 (fun h => h); have hd30 := HN5.out.cell hc30 (fun h => h); have hd31 := HN5.out.cell hc31 (fun h => h))
        | (go_at_call 59; refine (HR.out _ _ _ _ HO5).mono ?_; rintro e w6 ⟨s6, A6, n6, c6, rfl, H6, HN6⟩; have he10 := HN6.out.cell hd10 (fun h => h); have he11 := HN6.out.cell hd11 (fun h => h); have he20 := HN6.out.cell hd20 (fun h => h); have he21 := HN6.out.cell hd21 (fun h => h); have he30 := HN6.out.cell hd30 (fun h => h); have he31 := HN6.out.cell hd31 (fun h => h); have hh30 := ((HB.out.2.2.1.chg HN5.out (fun h => h)).chg HN6.out (fun h => h)).frozen 0; have hh31 := ((HB.out.2.2.1.chg HN5.out (fun h => h)).chg HN6.out (fun h => h)).frozen 1))
    all_goals
      clear hc10 hc11 hc20 hc21 hc30 hc31 hf30 hf31 hd10 hd11 hd20 hd21 hd30 hd31
      go_wp2
      have hb6 := (HB.out.2.2.1.chg HN5.out (fun h => h)).chg HN6.out (fun h => h)
      refine bodyPost_ret (res_ct rfl _ rfl (aggInt.load (hb6.set2 _ _)) rfl) rfl ⟨s6, A6, n6, c6, rfl, H6.out.store hb6 (noInt_two _ _ _ _) (Chg.at2 _ _ _ _), ?_⟩
      exact Chg.owned (HB.out.2.2.2.new (HN5.out.new HN6.out)) (Chg.at2 _ _ _ _) (fun k e => by omega)
  · injection hb with hb1 hb2
    injection hb2 with hb2 hb3
    subst hb1 hb2 hb3
    go_enter Try.func37, Try.ntmps37
    go_wp2_with fail
    refine Code.new3 ?_
    intro W hb1 hb2 hb3 hnW hzW
    have hc10 := hb1.cell 0 (u := .bool true) rfl
    have hc11 := hb1.cell 1 (u := .slice A n c) rfl
    have hc20 := hb2.cell 0 (u := .bool false) rfl
    have hc21 := hb2.cell 1 (u := .slice A' n' c') rfl
    have hc30 := hb3.cell 0 (u := .bool false) rfl
    have hc31 := hb3.cell 1 (u := .slice none 0 0) rfl
    have hf30 := hb3.frozen 0
    have hf31 := hb3.frozen 1
    have hmul : ∀ W', New W W' → Calls Try.prog 60 #[.slice A n c, .slice A' n' c'] W' fun e w' => ∃ R m d, e = .returned (.slice R m d) ∧ Hid (WM w' R m d (X * Y)) ∧ Hid (New W w') := fun W' h =>
      (mulMag_any A n c A' n' c' _ _ W' (H0.out.1.new (hnW.new h)) (H0.out.2.1.new (hnW.new h)) hn hn').mono fun e w' ⟨R, m, d, h1, h2⟩ => ⟨R, m, d, h1, h2.out.1, h.new h2.out.2.2⟩
    have hran : ∀ R m d W', Hid (WM W' R m d (X * Y)) → Calls Try.prog 59 #[.bool true, .slice R m d] W' fun e w' => ∃ s' A' n' c', e = .returned (.tuple #[.agg #[.bool s', .slice A' n' c'], .int .i64 (rgE z)]) ∧ Hid (WI w' (.agg #[.bool s', .slice A' n' c']) (rg z)) ∧ Hid (New W' w') := fun R m d W' h => by
      have := ranged_wm true R m d _ W' h.out
      rw [H0.out.2.2] at this
      exact this.mono fun e w' ⟨s5, A5, n5, c5, h1, h2⟩ => ⟨s5, A5, n5, c5, h1, h2.out.1, h2.out.2⟩
    have HP := Lib.hid hmul
    have HR := Lib.hid hran
    have HB := Lib.hid (And.intro hb1 (And.intro hb2 (And.intro hb3 hnW)))
    clear hmul hran hb1 hb2 hb3 hnW
    go_region_held3 (fun w' => w'.cell? ⟨w.heap.size, 0, none⟩ = some (.bool true) ∧ w'.cell? ⟨w.heap.size, 1, none⟩ = some (.slice A n c) ∧ w'.cell? ⟨w.heap.size + 1, 0, none⟩ = some (.bool false) ∧ w'.cell? ⟨w.heap.size + 1, 1, none⟩ = some (.slice A' n' c')) (first | exact ⟨by assumption, by assumption, by assumption, by assumption⟩ | exact ⟨far2 he10 (by dsimp only; omega) _ _, far2 he11 (by dsimp only; omega) _ _, far2 he20 (by dsimp only; omega) _ _, far2 he21 (by dsimp only; omega) _ _⟩)
      (first
        | (go_at_call 60; refine (HP.out _ ?_).mono ?_; exact (Chg.refl _ _).drew; rintro e w5 ⟨R, k, d, rfl, HO5, HN5⟩; have hd10 := HN5.out.cell hc10 (fun h => h); have hd11 := HN5.out.cell hc11 (fun h => h); have hd20 := HN5.out.cell hc20 (fun h => h); have hd21 := HN5.out.cell hc21 (fun h => h); have hd30 := HN5.out.cell hc30 (fun h => h); have hd31 := HN5.out.cell hc31 (fun h => h))
        | (go_at_call 59; refine (HR.out _ _ _ _ HO5).mono ?_; rintro e w6 ⟨s6, A6, n6, c6, rfl, H6, HN6⟩; have he10 := HN6.out.cell hd10 (fun h => h); have he11 := HN6.out.cell hd11 (fun h => h); have he20 := HN6.out.cell hd20 (fun h => h); have he21 := HN6.out.cell hd21 (fun h => h); have he30 := HN6.out.cell hd30 (fun h => h); have he31 := HN6.out.cell hd31 (fun h => h); have hh30 := ((HB.out.2.2.1.chg HN5.out (fun h => h)).chg HN6.out (fun h => h)).frozen 0; have hh31 := ((HB.out.2.2.1.chg HN5.out (fun h => h)).chg HN6.out (fun h => h)).frozen 1))
    all_goals
      clear hc10 hc11 hc20 hc21 hc30 hc31 hf30 hf31 hd10 hd11 hd20 hd21 hd30 hd31
      go_wp2
      have hb6 := (HB.out.2.2.1.chg HN5.out (fun h => h)).chg HN6.out (fun h => h)
      refine bodyPost_ret (res_ct rfl _ rfl (aggInt.load (hb6.set2 _ _)) rfl) rfl ⟨s6, A6, n6, c6, rfl, H6.out.store hb6 (noInt_two _ _ _ _) (Chg.at2 _ _ _ _), ?_⟩
      exact Chg.owned (HB.out.2.2.2.new (HN5.out.new HN6.out)) (Chg.at2 _ _ _ _) (fun k e => by omega)
  · injection hb with hb1 hb2
    injection hb2 with hb2 hb3
    subst hb1 hb2 hb3
    go_enter Try.func37, Try.ntmps37
    go_wp2_with fail
    refine Code.new3 ?_
    intro W hb1 hb2 hb3 hnW hzW
    have hc10 := hb1.cell 0 (u := .bool true) rfl
    have hc11 := hb1.cell 1 (u := .slice A n c) rfl
    have hc20 := hb2.cell 0 (u := .bool true) rfl
    have hc21 := hb2.cell 1 (u := .slice A' n' c') rfl
    have hc30 := hb3.cell 0 (u := .bool false) rfl
    have hc31 := hb3.cell 1 (u := .slice none 0 0) rfl
    have hf30 := hb3.frozen 0
    have hf31 := hb3.frozen 1
    have hmul : ∀ W', New W W' → Calls Try.prog 60 #[.slice A n c, .slice A' n' c'] W' fun e w' => ∃ R m d, e = .returned (.slice R m d) ∧ Hid (WM w' R m d (X * Y)) ∧ Hid (New W w') := fun W' h =>
      (mulMag_any A n c A' n' c' _ _ W' (H0.out.1.new (hnW.new h)) (H0.out.2.1.new (hnW.new h)) hn hn').mono fun e w' ⟨R, m, d, h1, h2⟩ => ⟨R, m, d, h1, h2.out.1, h.new h2.out.2.2⟩
    have hran : ∀ R m d W', Hid (WM W' R m d (X * Y)) → Calls Try.prog 59 #[.bool false, .slice R m d] W' fun e w' => ∃ s' A' n' c', e = .returned (.tuple #[.agg #[.bool s', .slice A' n' c'], .int .i64 (rgE z)]) ∧ Hid (WI w' (.agg #[.bool s', .slice A' n' c']) (rg z)) ∧ Hid (New W' w') := fun R m d W' h => by
      have := ranged_wm false R m d _ W' h.out
      rw [H0.out.2.2] at this
      exact this.mono fun e w' ⟨s5, A5, n5, c5, h1, h2⟩ => ⟨s5, A5, n5, c5, h1, h2.out.1, h2.out.2⟩
    have HP := Lib.hid hmul
    have HR := Lib.hid hran
    have HB := Lib.hid (And.intro hb1 (And.intro hb2 (And.intro hb3 hnW)))
    clear hmul hran hb1 hb2 hb3 hnW
    go_region_held3 (fun w' => w'.cell? ⟨w.heap.size, 0, none⟩ = some (.bool true) ∧ w'.cell? ⟨w.heap.size, 1, none⟩ = some (.slice A n c) ∧ w'.cell? ⟨w.heap.size + 1, 0, none⟩ = some (.bool true) ∧ w'.cell? ⟨w.heap.size + 1, 1, none⟩ = some (.slice A' n' c')) (first | exact ⟨by assumption, by assumption, by assumption, by assumption⟩ | exact ⟨far2 he10 (by dsimp only; omega) _ _, far2 he11 (by dsimp only; omega) _ _, far2 he20 (by dsimp only; omega) _ _, far2 he21 (by dsimp only; omega) _ _⟩)
      (first
        | (go_at_call 60; refine (HP.out _ ?_).mono ?_; exact (Chg.refl _ _).drew; rintro e w5 ⟨R, k, d, rfl, HO5, HN5⟩; have hd10 := HN5.out.cell hc10 (fun h => h); have hd11 := HN5.out.cell hc11 (fun h => h); have hd20 := HN5.out.cell hc20 (fun h => h); have hd21 := HN5.out.cell hc21 (fun h => h); have hd30 := HN5.out.cell hc30 (fun h => h); have hd31 := HN5.out.cell hc31 (fun h => h))
        | (go_at_call 59; refine (HR.out _ _ _ _ HO5).mono ?_; rintro e w6 ⟨s6, A6, n6, c6, rfl, H6, HN6⟩; have he10 := HN6.out.cell hd10 (fun h => h); have he11 := HN6.out.cell hd11 (fun h => h); have he20 := HN6.out.cell hd20 (fun h => h); have he21 := HN6.out.cell hd21 (fun h => h); have he30 := HN6.out.cell hd30 (fun h => h); have he31 := HN6.out.cell hd31 (fun h => h); have hh30 := ((HB.out.2.2.1.chg HN5.out (fun h => h)).chg HN6.out (fun h => h)).frozen 0; have hh31 := ((HB.out.2.2.1.chg HN5.out (fun h => h)).chg HN6.out (fun h => h)).frozen 1))
    all_goals
      clear hc10 hc11 hc20 hc21 hc30 hc31 hf30 hf31 hd10 hd11 hd20 hd21 hd30 hd31
      go_wp2
      have hb6 := (HB.out.2.2.1.chg HN5.out (fun h => h)).chg HN6.out (fun h => h)
      refine bodyPost_ret (res_ct rfl _ rfl (aggInt.load (hb6.set2 _ _)) rfl) rfl ⟨s6, A6, n6, c6, rfl, H6.out.store hb6 (noInt_two _ _ _ _) (Chg.at2 _ _ _ _), ?_⟩
      exact Chg.owned (HB.out.2.2.2.new (HN5.out.new HN6.out)) (Chg.at2 _ _ _ _) (fun k e => by omega)
theorem wmul_any (v v' : Value) (x y : Int) (w : World) (hx : WI w v x) (hy : WI w v' y) (bx : x.natAbs < 2 ^ 1000000) (bY : y.natAbs < 2 ^ 1000000) :
    Calls Try.prog 37 #[v, v'] w fun e w' => ∃ s A n c, e = .returned (.tuple #[.agg #[.bool s, .slice A n c], .int .i64 (rgE (x * y))]) ∧ Hid (WI w' (.agg #[.bool s, .slice A n c]) (rg (x * y)) ∧ New w w') := by
  obtain ⟨s, A, n, c, rfl, hs, hm⟩ := hx
  obtain ⟨s', A', n', c', rfl, hs', hm'⟩ := hy
  refine wmul_wm s s' (s != s') (by cases s <;> cases s' <;> simp) A n c A' n' c' x.natAbs y.natAbs (x * y) ?_ w hm hm' (bz_wlen hm bx) (bz_wlen hm' bY)
  rw [hs, hs', sg_mulW', sg_of, sg_of]
end Go.Proofs.Ytgofjkppeobjfaa

namespace Go.Proofs.Ytgofjkppeobjfaa
set_option linter.unusedVariables false
open Go.RowKit Go.Mem Go.Dig

/-- The closure step of addMag. -/
theorem addStep_any (p r cr : Nat) (hp : p < 4294967296) (hr : r < 4294967296) (hcr : cr ≤ 1) (g : Nat) (w : World) (hb : Blk w g 22 #[.int .u64 cr]) :
    Calls Try.prog 56 #[.int .u32 p, .int .u32 r, .pointer (some ⟨g, 0, none⟩)] w fun e w' => e = .returned (.int .u32 (((p + r + cr) % 4294967296 : Nat) : Int)) ∧ Blk w' g 22 #[.int .u64 (((p + r + cr) / 4294967296 : Nat) : Int)] ∧ Chg (fun k => k = g) w w' := by
  obtain ⟨v, hv⟩ : ∃ v, p + r + cr = v := ⟨_, rfl⟩
  rw [hv]
  have hvi : (cr : Int) + ((p : Int) + (r : Int)) = (v : Int) := by omega
  have hvb : v ≤ 8589934591 := by omega
  have hc := hb.cell 0 (u := .int .u64 cr) rfl
  have hf := hb.frozen 0
  have HB := Lib.hid hb
  clear hb hv
  go_enter Try.func56, Try.ntmps56
  go_wp2
  go_ret
  refine ⟨ret_int (by omega), ?_, ((Chg.refl (fun k => k = g) w).setCell (p := ⟨g, 0, none⟩) (fun _ => rfl) _).setCell (p := ⟨g, 0, none⟩) (fun _ => rfl) _⟩
  have := (HB.out.set1 (.int .u64 (v : Int))).set1 (.int .u64 ((v / 4294967296 : Nat) : Int))
  rw [show ((v : Int) / 4294967296) = ((v / 4294967296 : Nat) : Int) by omega]
  exact this
theorem own_frz {w : World} {base : Nat} {e : TypeId} {g n c : Nat} {xs : List Value} (h : w.ownsRow base e 1 (.slice (some ⟨g, 0, none⟩) n c) n xs) (hn : 0 < n) (i : Nat) : w.frozen? ⟨g, i, none⟩ = false := by
  obtain ⟨gg, hgg, _, _, hfz⟩ := own_form h hn
  have : g = gg := by simpa using hgg
  subst this
  exact hfz i
theorem set_mid (o : List Nat) (m k d : Nat) (hk : o.length = k) : (o ++ List.replicate (m + 1) 0).set k d = (o ++ [d]) ++ List.replicate m 0 := by
  subst hk
  rw [List.set_append_right _ _ (Nat.le_refl _), Nat.sub_self, List.replicate_succ, List.set_cons_zero, List.append_assoc]
  rfl

/-- Digits, whatever stands at the end. -/
structure DN (B : Nat) (l : List Nat) (n : Nat) : Prop where
  digs : Digs B l
  val : val B l = n
def WD (w : World) (A : Option Addr) (n c : Nat) (m : Nat) : Prop := ∃ l, Rd w A n (nv .u32 l) ∧ n ≤ c ∧ c ≤ 9223372036854775807 ∧ DN 4294967296 l m
theorem WM.wd {w : World} {A : Option Addr} {n c m : Nat} (h : WM w A n c m) : WD w A n c m := by
  obtain ⟨l, h1, h2, h3, h4⟩ := h
  exact ⟨l, h1, h2, h3, h4.digs, h4.val⟩
/-- What the loops of addMag hold. -/
def AdI (w W : World) (gs gc : Nat) (la lb : List Nat) (n k : Nat) (wr : World) : Prop :=
  ∃ o cr, AddI 4294967296 la lb k o cr ∧ wr.ownsRow gs 61 1 (.slice (some ⟨gs, 0, none⟩) (n + 1) (n + 1)) (n + 1) (nv .u32 (o ++ List.replicate (n + 1 - k) 0)) ∧ Blk wr gc 22 #[.int .u64 cr] ∧ Chg (fun j => j = gs ∨ j = gc) W wr

set_option maxRecDepth 100000 in
set_option maxHeartbeats 4000000 in
theorem addMag_ge (A : Option Addr) (n c : Nat) (A' : Option Addr) (n' c' : Nat) (x y : Nat) (w : World) (hx : WD w A n c x) (hy : WD w A' n' c' y) (hn : n ≤ 1000000) (hnn : n' ≤ n) :
    Calls Try.prog 33 #[.slice A n c, .slice A' n' c'] w fun e w' => ∃ R m d, e = .returned (.slice R m d) ∧ Hid (WM w' R m d (x + y) ∧ New w w') := by
  obtain ⟨la, ha, hc1, hc2, hNa⟩ := hx
  obtain ⟨lb, hb, hd1, hd2, hNb⟩ := hy
  have hla : la.length = n := by have := ha.len; rwa [nv_length] at this
  have hlb : lb.length = n' := by have := hb.len; rwa [nv_length] at this
  have H0 := Lib.hid (And.intro ha (And.intro hb (And.intro hNa (And.intro hNb (And.intro hla hlb)))))
  have htest : decide ((n : Int) < (n' : Int)) = false := by simp; omega
  have htest' : decide (n < n') = false := by simp; omega
  clear ha hb hNa hNb hla hlb
  go_enter Try.func33, Try.ntmps33
  go_wp2_with (at_make; refine wpList_mk elemU32 rfl rfl _ _ rfl (n := n + 1) rfl rfl (by omega) (by omega) (by omega) (by simp only [maxLen]; omega) ?_; intro w1 hown hg hz; have HMK := Lib.hid (And.intro hown (And.intro hg hz)); clear hown hg hz)
  obtain ⟨ho, hnw, hz⟩ := HMK.out
  obtain ⟨gs, hgs⟩ : ∃ g, w.heap.size = g := ⟨_, rfl⟩
  obtain ⟨gc, hgc⟩ : ∃ g, w1.heap.size = g := ⟨_, rfl⟩
  have hgcs : gc = gs + 1 := by omega
  refine Code.new1 ?_
  intro W hbc hnW hzW
  rw [hgs] at ho
  rw [hgc] at hbc
  rw [show List.replicate (n + 1) (Value.int .u32 0) = nv .u32 ([] ++ List.replicate (n + 1 - 0) 0) by simp [nv]] at ho
  have HG := Lib.hid (And.intro hgs hgcs)
  have HW := Lib.hid (And.intro (hnw.new hnW) (And.intro (own_chg ho hnW (fun _ _ h => h)) hbc))
  simp only [hgs, hgc]
  clear hgs hgc hgcs hnw hz ho hbc hnW hzW HMK
  go_loopw [24] (fun i wr => ∃ k : Nat, i = .int .i64 k ∧ k ≤ n' ∧ Hid (AdI w W gs gc la lb n k wr)) (fun i _ => n' - (intOf i).toNat)
  case atStart => exact ⟨0, rfl, by omega, [], 0, AddI.start _ _ _, HW.out.2.1, HW.out.2.2, Chg.refl _ _⟩
  case round =>
    obtain ⟨i, rfl, hi, HO⟩ := hrel
    by_cases hlt : i < n'
    · obtain ⟨wo, rfl⟩ : ∃ wo : World, wo = wr := ⟨_, rfl⟩
      obtain ⟨ha, hb, hNa, hNb, hla, hlb⟩ := H0.out
      obtain ⟨o, cr, hA, hown, hbc, hch⟩ := HO.out
      have hchg : Chg (fun j => j = gs ∨ j = gc) w wo := (HW.out.1.mono (fun _ _ h => h.elim)).trans hch (fun _ _ h => h)
      obtain ⟨ad, u, rfl, hu, hcu⟩ := (ha.chg hchg (fun k _ h e => by have := HG.out; omega)).at_ (show i < n by omega)
      obtain ⟨bd, v, rfl, hv, hcv⟩ := (hb.chg hchg (fun k _ h e => by have := HG.out; omega)).at_ hlt
      obtain ⟨p, hp, rfl⟩ := nv_at hu
      obtain ⟨r, hr, rfl⟩ := nv_at hv
      have hpb := hNa.digs.at_ hp
      have hrb := hNb.digs.at_ hr
      have hst := hA.step (by omega) hNa.digs hNb.digs
      rw [dg_some hp, dg_some hr] at hst
      have hcrb := hA.carry
      obtain ⟨q, hq⟩ : ∃ q, (p + r + cr) % 4294967296 = q := ⟨_, rfl⟩
      obtain ⟨cr2, hcr2⟩ : ∃ c2, (p + r + cr) / 4294967296 = c2 := ⟨_, rfl⟩
      have hol : (o ++ List.replicate (n + 1 - i) 0)[i]? = some 0 := by
        obtain ⟨m, hm⟩ : ∃ m, n + 1 - i = m + 1 := ⟨n - i, by omega⟩
        rw [hm, List.getElem?_append_right (by rw [hA.len]; exact Nat.le_refl _), hA.len, Nat.sub_self, List.replicate_succ]
        rfl
      have hcs := own_cell hown (i := i) (u := .int .u32 (0 : Nat)) (by rw [nv, List.getElem?_map, hol]; rfl)
      obtain ⟨gg, hgg, _, hgsz, hfz⟩ := own_form hown (by omega)
      have hgg' : gs = gg := by simpa using hgg
      subst hgg'
      have hf := hfz i
      have hin : (i : Int) < (n : Int) := by omega
      have hin1 : (i : Int) < (n : Int) + 1 := by omega
      have hstep : ∀ W', New wo W' → Calls Try.prog 56 #[.int .u32 p, .int .u32 r, .pointer (some ⟨gc, 0, none⟩)] W' fun e w' => e = .returned (.int .u32 (q : Int)) ∧ Hid (Blk w' gc 22 #[.int .u64 (cr2 : Int)] ∧ Chg (fun k => k = gc) wo w') := fun W' h =>
        (addStep_any p r cr hpb hrb hcrb gc W' (hbc.chg h (fun h => h))).mono fun e w' ⟨h1, h2, h3⟩ => ⟨by rw [h1, hq], by rw [← hcr2]; exact h2, (h.mono (fun _ _ h => h.elim)).trans h3 (fun _ _ h => h)⟩
      rw [hq, hcr2] at hst
      have HS := Lib.hid (And.intro hst (And.intro hown hch))
      have HST := Lib.hid hstep
      have HA := Lib.hid (fun W' (h : Chg (fun k => k = gc) wo W') => And.intro (own_chg hown h (fun k hk e => by have := HG.out; simp [blk] at hk; omega)) (hA.len))
      clear ha hb hNa hNb hla hlb hA hown hbc hch hchg hu hv hp hr hst hol hgg hfz hstep hq hcr2
      go_wp2_with fail
      go_region_with (first
        | (go_at_call 56; refine (HST.out _ ?_).mono ?_; exact (Chg.refl _ _).drew; rintro e w5 ⟨rfl, H5⟩; have hk5 := own_cell (HA.out w5 H5.out.2).1 (i := i) (u := .int .u32 (0 : Nat)) (by rw [nv, List.getElem?_map, List.getElem?_append_right (by rw [(HA.out w5 H5.out.2).2]; exact Nat.le_refl _), (HA.out w5 H5.out.2).2, Nat.sub_self, show n + 1 - i = (n - i) + 1 by omega, List.replicate_succ]; rfl); have hf5 := own_frz (HA.out w5 H5.out.2).1 (by omega) i))
      all_goals
        go_wp2
        go_roundw
        case rel =>
          obtain ⟨hst, _, hch⟩ := HS.out
          obtain ⟨hbc5, hc5⟩ := H5.out
          obtain ⟨hown5, hol⟩ := HA.out w5 hc5
          have hset := own_set hown5 i (.int .u32 (q : Int)) (by omega)
          rw [nv_set, show n + 1 - i = (n - i) + 1 by omega, set_mid o (n - i) i q hol] at hset
          refine ⟨i + 1, by go_num, by omega, o ++ [q], cr2, hst, by rw [show n + 1 - (i + 1) = n - i by omega]; exact hset, hbc5.far (p := ⟨gs, i, none⟩) (by have := HG.out; dsimp only; omega) _, ?_⟩
          exact (hch.trans (hc5.mono (fun _ _ h => .inr h)) (fun _ _ h => h)).setCell (fun _ => .inl rfl) _
        case measure => simp [intOf]; omega
    · obtain rfl : n' = i := by omega
      go_wp2_with fail
      go_loopw [9] (fun v wr => ∃ k : Nat, v = .int .i64 k ∧ n' ≤ k ∧ k ≤ n ∧ Hid (AdI w W gs gc la lb n k wr)) (fun v _ => n - (intOf v).toNat)
      case atStart => exact ⟨n', rfl, Nat.le_refl _, by omega, HO.out⟩
      case round =>
        clear HO
        obtain ⟨wo, rfl⟩ : ∃ wo : World, wo = wr := ⟨_, rfl⟩
        obtain ⟨i, rfl, hi1, hi2, HO⟩ := hrel
        obtain ⟨ha, hb, hNa, hNb, hla, hlb⟩ := H0.out
        obtain ⟨o, cr, hA, hown, hbc, hch⟩ := HO.out
        have hchg : Chg (fun j => j = gs ∨ j = gc) w wo := (HW.out.1.mono (fun _ _ h => h.elim)).trans hch (fun _ _ h => h)
        have hcrb := hA.carry
        by_cases hlt : i < n
        · obtain ⟨ad, u, rfl, hu, hcu⟩ := (ha.chg hchg (fun k _ h e => by have := HG.out; omega)).at_ hlt
          obtain ⟨p, hp, rfl⟩ := nv_at hu
          have hpb := hNa.digs.at_ hp
          have hst := hA.step (by omega) hNa.digs hNb.digs
          rw [dg_some hp, dg_none (by omega)] at hst
          obtain ⟨q, hq⟩ : ∃ q, (p + 0 + cr) % 4294967296 = q := ⟨_, rfl⟩
          obtain ⟨cr2, hcr2⟩ : ∃ c2, (p + 0 + cr) / 4294967296 = c2 := ⟨_, rfl⟩
          rw [hq, hcr2] at hst
          have hstep := addStep_any p 0 cr hpb (by omega) hcrb gc wo hbc
          rw [hq, hcr2, show (((0 : Nat)) : Int) = 0 from rfl] at hstep
          have hkeep := fun W' (h : Chg (fun k => k = gc) wo W') => And.intro (own_chg hown h (fun k hk e => by have := HG.out; simp [blk] at hk; omega)) hA.len
          have HS := Lib.hid (And.intro hst (And.intro hch (And.intro hstep hkeep)))
          have hin : (i : Int) < (n : Int) := by omega
          clear ha hb hNa hNb hla hlb hA hown hbc hch hchg hu hp hst hq hcr2 hstep hkeep
          go_wp2_with fail
          refine HS.out.2.2.1.mono ?_
          rintro e w5 ⟨rfl, hbc5, hc5⟩
          obtain ⟨hown5, hol⟩ := HS.out.2.2.2 w5 hc5
          have hk5 := own_cell hown5 (i := i) (u := .int .u32 (0 : Nat)) (by rw [nv, List.getElem?_map, List.getElem?_append_right (by rw [hol]; exact Nat.le_refl _), hol, Nat.sub_self, show n + 1 - i = (n - i) + 1 by omega, List.replicate_succ]; rfl)
          have hf5 := own_frz hown5 (by omega) i
          have hin1 : (i : Int) < (n : Int) + 1 := by omega
          have H5 := Lib.hid (And.intro hbc5 (And.intro hc5 (And.intro hown5 hol)))
          clear hbc5 hc5 hown5 hol
          go_wp2
          go_roundw
          case rel =>
            obtain ⟨hst, hch, _⟩ := HS.out
            obtain ⟨hbc5, hc5, hown5, hol⟩ := H5.out
            have hset := own_set hown5 i (.int .u32 (q : Int)) (by omega)
            rw [nv_set, show n + 1 - i = (n - i) + 1 by omega, set_mid o (n - i) i q hol] at hset
            refine ⟨i + 1, by go_num, by omega, by omega, o ++ [q], cr2, hst, by rw [show n + 1 - (i + 1) = n - i by omega]; exact hset, hbc5.far (p := ⟨gs, i, none⟩) (by have := HG.out; dsimp only; omega) _, ?_⟩
            exact (hch.trans (hc5.mono (fun _ _ h => .inr h)) (fun _ _ h => h)).setCell (fun _ => .inl rfl) _
          case measure => simp [intOf]; omega
        · obtain rfl : n = i := by omega
          have hk0 := hbc.cell 0 (u := .int .u64 cr) rfl
          have hks := own_cell hown (i := n) (u := .int .u32 (0 : Nat)) (by rw [nv, List.getElem?_map, List.getElem?_append_right (by rw [hA.len]; exact Nat.le_refl _), hA.len, Nat.sub_self, show n + 1 - n = 0 + 1 by omega, List.replicate_succ]; rfl)
          have hfs := own_frz hown (by omega) n
          have hset := own_set hown n (.int .u32 (cr : Int)) (by omega)
          rw [nv_set, show n + 1 - n = 0 + 1 by omega, set_mid o 0 n cr hA.len, List.replicate_zero, List.append_nil] at hset
          have hval : val 4294967296 (o ++ [cr]) = x + y := by
            rw [val_snoc, hA.len, hA.eq, List.take_of_length_le (by omega), List.take_of_length_le (by omega), hNa.val, hNb.val]
          have hdg : Digs 4294967296 (o ++ [cr]) := hA.digs.snoc (by omega)
          have hn1 : New w (wo.setCell ⟨gs, n, none⟩ (.int .u32 (cr : Int))) := Chg.owned HW.out.1 (hch.setCell (p := ⟨gs, n, none⟩) (fun _ => .inl rfl) _) (fun k e => by have := HG.out; omega)
          have hcri : (cr : Int) % 4294967296 = (cr : Int) := by omega
          have HF := Lib.hid (And.intro hset (And.intro hval (And.intro hdg hn1)))
          clear ha hb hNa hNb hla hlb hA hown hbc hch hchg hset hval hdg hn1
          go_wp2_with fail
          obtain ⟨hset, hval, hdg, hn1⟩ := HF.out
          refine (trim_wm _ (n + 1) (n + 1) (o ++ [cr]) _ (Rd.of_own hset) hdg (Nat.le_refl _) (by omega)).mono ?_
          rintro e w2 ⟨T, rfl, HT, rfl⟩
          clear hset hval hdg hn1
          go_wp2
          go_ret
          obtain ⟨hset, hval, hdg, hn1⟩ := HF.out
          have hT := HT.out.1
          rw [hval] at hT
          exact ⟨_, _, _, rfl, hT, hn1⟩

set_option maxRecDepth 100000 in
set_option maxHeartbeats 4000000 in
theorem addMag_lt (A : Option Addr) (n c : Nat) (A' : Option Addr) (n' c' : Nat) (x y : Nat) (w : World) (hx : WD w A n c x) (hy : WD w A' n' c' y) (hn : n ≤ 1000000) (hnn : n' < n) :
    Calls Try.prog 33 #[.slice A' n' c', .slice A n c] w fun e w' => ∃ R m d, e = .returned (.slice R m d) ∧ Hid (WM w' R m d (x + y) ∧ New w w') := by
  obtain ⟨la, ha, hc1, hc2, hNa⟩ := hx
  obtain ⟨lb, hb, hd1, hd2, hNb⟩ := hy
  have hla : la.length = n := by have := ha.len; rwa [nv_length] at this
  have hlb : lb.length = n' := by have := hb.len; rwa [nv_length] at this
  have H0 := Lib.hid (And.intro ha (And.intro hb (And.intro hNa (And.intro hNb (And.intro hla hlb)))))
  have htest : (n' : Int) < (n : Int) := by omega
  clear ha hb hNa hNb hla hlb
  go_enter Try.func33, Try.ntmps33
  go_wp2_with (at_make; refine wpList_mk elemU32 rfl rfl _ _ rfl (n := n + 1) rfl rfl (by omega) (by omega) (by omega) (by simp only [maxLen]; omega) ?_; intro w1 hown hg hz; have HMK := Lib.hid (And.intro hown (And.intro hg hz)); clear hown hg hz)
  obtain ⟨ho, hnw, hz⟩ := HMK.out
  obtain ⟨gs, hgs⟩ : ∃ g, w.heap.size = g := ⟨_, rfl⟩
  obtain ⟨gc, hgc⟩ : ∃ g, w1.heap.size = g := ⟨_, rfl⟩
  have hgcs : gc = gs + 1 := by omega
  refine Code.new1 ?_
  intro W hbc hnW hzW
  rw [hgs] at ho
  rw [hgc] at hbc
  rw [show List.replicate (n + 1) (Value.int .u32 0) = nv .u32 ([] ++ List.replicate (n + 1 - 0) 0) by simp [nv]] at ho
  have HG := Lib.hid (And.intro hgs hgcs)
  have HW := Lib.hid (And.intro (hnw.new hnW) (And.intro (own_chg ho hnW (fun _ _ h => h)) hbc))
  simp only [hgs, hgc]
  clear hgs hgc hgcs hnw hz ho hbc hnW hzW HMK
  go_loopw [24] (fun i wr => ∃ k : Nat, i = .int .i64 k ∧ k ≤ n' ∧ Hid (AdI w W gs gc la lb n k wr)) (fun i _ => n' - (intOf i).toNat)
  case atStart => exact ⟨0, rfl, by omega, [], 0, AddI.start _ _ _, HW.out.2.1, HW.out.2.2, Chg.refl _ _⟩
  case round =>
    obtain ⟨i, rfl, hi, HO⟩ := hrel
    by_cases hlt : i < n'
    · obtain ⟨wo, rfl⟩ : ∃ wo : World, wo = wr := ⟨_, rfl⟩
      obtain ⟨ha, hb, hNa, hNb, hla, hlb⟩ := H0.out
      obtain ⟨o, cr, hA, hown, hbc, hch⟩ := HO.out
      have hchg : Chg (fun j => j = gs ∨ j = gc) w wo := (HW.out.1.mono (fun _ _ h => h.elim)).trans hch (fun _ _ h => h)
      obtain ⟨ad, u, rfl, hu, hcu⟩ := (ha.chg hchg (fun k _ h e => by have := HG.out; omega)).at_ (show i < n by omega)
      obtain ⟨bd, v, rfl, hv, hcv⟩ := (hb.chg hchg (fun k _ h e => by have := HG.out; omega)).at_ hlt
      obtain ⟨p, hp, rfl⟩ := nv_at hu
      obtain ⟨r, hr, rfl⟩ := nv_at hv
      have hpb := hNa.digs.at_ hp
      have hrb := hNb.digs.at_ hr
      have hst := hA.step (by omega) hNa.digs hNb.digs
      rw [dg_some hp, dg_some hr] at hst
      have hcrb := hA.carry
      obtain ⟨q, hq⟩ : ∃ q, (p + r + cr) % 4294967296 = q := ⟨_, rfl⟩
      obtain ⟨cr2, hcr2⟩ : ∃ c2, (p + r + cr) / 4294967296 = c2 := ⟨_, rfl⟩
      have hol : (o ++ List.replicate (n + 1 - i) 0)[i]? = some 0 := by
        obtain ⟨m, hm⟩ : ∃ m, n + 1 - i = m + 1 := ⟨n - i, by omega⟩
        rw [hm, List.getElem?_append_right (by rw [hA.len]; exact Nat.le_refl _), hA.len, Nat.sub_self, List.replicate_succ]
        rfl
      have hcs := own_cell hown (i := i) (u := .int .u32 (0 : Nat)) (by rw [nv, List.getElem?_map, hol]; rfl)
      obtain ⟨gg, hgg, _, hgsz, hfz⟩ := own_form hown (by omega)
      have hgg' : gs = gg := by simpa using hgg
      subst hgg'
      have hf := hfz i
      have hin : (i : Int) < (n : Int) := by omega
      have hin1 : (i : Int) < (n : Int) + 1 := by omega
      have hstep : ∀ W', New wo W' → Calls Try.prog 56 #[.int .u32 p, .int .u32 r, .pointer (some ⟨gc, 0, none⟩)] W' fun e w' => e = .returned (.int .u32 (q : Int)) ∧ Hid (Blk w' gc 22 #[.int .u64 (cr2 : Int)] ∧ Chg (fun k => k = gc) wo w') := fun W' h =>
        (addStep_any p r cr hpb hrb hcrb gc W' (hbc.chg h (fun h => h))).mono fun e w' ⟨h1, h2, h3⟩ => ⟨by rw [h1, hq], by rw [← hcr2]; exact h2, (h.mono (fun _ _ h => h.elim)).trans h3 (fun _ _ h => h)⟩
      rw [hq, hcr2] at hst
      have HS := Lib.hid (And.intro hst (And.intro hown hch))
      have HST := Lib.hid hstep
      have HA := Lib.hid (fun W' (h : Chg (fun k => k = gc) wo W') => And.intro (own_chg hown h (fun k hk e => by have := HG.out; simp [blk] at hk; omega)) (hA.len))
      clear ha hb hNa hNb hla hlb hA hown hbc hch hchg hu hv hp hr hst hol hgg hfz hstep hq hcr2
      go_wp2_with fail
      go_region_with (first
        | (go_at_call 56; refine (HST.out _ ?_).mono ?_; exact (Chg.refl _ _).drew; rintro e w5 ⟨rfl, H5⟩; have hk5 := own_cell (HA.out w5 H5.out.2).1 (i := i) (u := .int .u32 (0 : Nat)) (by rw [nv, List.getElem?_map, List.getElem?_append_right (by rw [(HA.out w5 H5.out.2).2]; exact Nat.le_refl _), (HA.out w5 H5.out.2).2, Nat.sub_self, show n + 1 - i = (n - i) + 1 by omega, List.replicate_succ]; rfl); have hf5 := own_frz (HA.out w5 H5.out.2).1 (by omega) i))
      all_goals
        go_wp2
        go_roundw
        case rel =>
          obtain ⟨hst, _, hch⟩ := HS.out
          obtain ⟨hbc5, hc5⟩ := H5.out
          obtain ⟨hown5, hol⟩ := HA.out w5 hc5
          have hset := own_set hown5 i (.int .u32 (q : Int)) (by omega)
          rw [nv_set, show n + 1 - i = (n - i) + 1 by omega, set_mid o (n - i) i q hol] at hset
          refine ⟨i + 1, by go_num, by omega, o ++ [q], cr2, hst, by rw [show n + 1 - (i + 1) = n - i by omega]; exact hset, hbc5.far (p := ⟨gs, i, none⟩) (by have := HG.out; dsimp only; omega) _, ?_⟩
          exact (hch.trans (hc5.mono (fun _ _ h => .inr h)) (fun _ _ h => h)).setCell (fun _ => .inl rfl) _
        case measure => simp [intOf]; omega
    · obtain rfl : n' = i := by omega
      go_wp2_with fail
      go_loopw [9] (fun v wr => ∃ k : Nat, v = .int .i64 k ∧ n' ≤ k ∧ k ≤ n ∧ Hid (AdI w W gs gc la lb n k wr)) (fun v _ => n - (intOf v).toNat)
      case atStart => exact ⟨n', rfl, Nat.le_refl _, by omega, HO.out⟩
      case round =>
        clear HO
        obtain ⟨wo, rfl⟩ : ∃ wo : World, wo = wr := ⟨_, rfl⟩
        obtain ⟨i, rfl, hi1, hi2, HO⟩ := hrel
        obtain ⟨ha, hb, hNa, hNb, hla, hlb⟩ := H0.out
        obtain ⟨o, cr, hA, hown, hbc, hch⟩ := HO.out
        have hchg : Chg (fun j => j = gs ∨ j = gc) w wo := (HW.out.1.mono (fun _ _ h => h.elim)).trans hch (fun _ _ h => h)
        have hcrb := hA.carry
        by_cases hlt : i < n
        · obtain ⟨ad, u, rfl, hu, hcu⟩ := (ha.chg hchg (fun k _ h e => by have := HG.out; omega)).at_ hlt
          obtain ⟨p, hp, rfl⟩ := nv_at hu
          have hpb := hNa.digs.at_ hp
          have hst := hA.step (by omega) hNa.digs hNb.digs
          rw [dg_some hp, dg_none (by omega)] at hst
          obtain ⟨q, hq⟩ : ∃ q, (p + 0 + cr) % 4294967296 = q := ⟨_, rfl⟩
          obtain ⟨cr2, hcr2⟩ : ∃ c2, (p + 0 + cr) / 4294967296 = c2 := ⟨_, rfl⟩
          rw [hq, hcr2] at hst
          have hstep := addStep_any p 0 cr hpb (by omega) hcrb gc wo hbc
          rw [hq, hcr2, show (((0 : Nat)) : Int) = 0 from rfl] at hstep
          have hkeep := fun W' (h : Chg (fun k => k = gc) wo W') => And.intro (own_chg hown h (fun k hk e => by have := HG.out; simp [blk] at hk; omega)) hA.len
          have HS := Lib.hid (And.intro hst (And.intro hch (And.intro hstep hkeep)))
          have hin : (i : Int) < (n : Int) := by omega
          clear ha hb hNa hNb hla hlb hA hown hbc hch hchg hu hp hst hq hcr2 hstep hkeep
          go_wp2_with fail
          refine HS.out.2.2.1.mono ?_
          rintro e w5 ⟨rfl, hbc5, hc5⟩
          obtain ⟨hown5, hol⟩ := HS.out.2.2.2 w5 hc5
          have hk5 := own_cell hown5 (i := i) (u := .int .u32 (0 : Nat)) (by rw [nv, List.getElem?_map, List.getElem?_append_right (by rw [hol]; exact Nat.le_refl _), hol, Nat.sub_self, show n + 1 - i = (n - i) + 1 by omega, List.replicate_succ]; rfl)
          have hf5 := own_frz hown5 (by omega) i
          have hin1 : (i : Int) < (n : Int) + 1 := by omega
          have H5 := Lib.hid (And.intro hbc5 (And.intro hc5 (And.intro hown5 hol)))
          clear hbc5 hc5 hown5 hol
          go_wp2
          go_roundw
          case rel =>
            obtain ⟨hst, hch, _⟩ := HS.out
            obtain ⟨hbc5, hc5, hown5, hol⟩ := H5.out
            have hset := own_set hown5 i (.int .u32 (q : Int)) (by omega)
            rw [nv_set, show n + 1 - i = (n - i) + 1 by omega, set_mid o (n - i) i q hol] at hset
            refine ⟨i + 1, by go_num, by omega, by omega, o ++ [q], cr2, hst, by rw [show n + 1 - (i + 1) = n - i by omega]; exact hset, hbc5.far (p := ⟨gs, i, none⟩) (by have := HG.out; dsimp only; omega) _, ?_⟩
            exact (hch.trans (hc5.mono (fun _ _ h => .inr h)) (fun _ _ h => h)).setCell (fun _ => .inl rfl) _
          case measure => simp [intOf]; omega
        · obtain rfl : n = i := by omega
          have hk0 := hbc.cell 0 (u := .int .u64 cr) rfl
          have hks := own_cell hown (i := n) (u := .int .u32 (0 : Nat)) (by rw [nv, List.getElem?_map, List.getElem?_append_right (by rw [hA.len]; exact Nat.le_refl _), hA.len, Nat.sub_self, show n + 1 - n = 0 + 1 by omega, List.replicate_succ]; rfl)
          have hfs := own_frz hown (by omega) n
          have hset := own_set hown n (.int .u32 (cr : Int)) (by omega)
          rw [nv_set, show n + 1 - n = 0 + 1 by omega, set_mid o 0 n cr hA.len, List.replicate_zero, List.append_nil] at hset
          have hval : val 4294967296 (o ++ [cr]) = x + y := by
            rw [val_snoc, hA.len, hA.eq, List.take_of_length_le (by omega), List.take_of_length_le (by omega), hNa.val, hNb.val]
          have hdg : Digs 4294967296 (o ++ [cr]) := hA.digs.snoc (by omega)
          have hn1 : New w (wo.setCell ⟨gs, n, none⟩ (.int .u32 (cr : Int))) := Chg.owned HW.out.1 (hch.setCell (p := ⟨gs, n, none⟩) (fun _ => .inl rfl) _) (fun k e => by have := HG.out; omega)
          have hcri : (cr : Int) % 4294967296 = (cr : Int) := by omega
          have HF := Lib.hid (And.intro hset (And.intro hval (And.intro hdg hn1)))
          clear ha hb hNa hNb hla hlb hA hown hbc hch hchg hset hval hdg hn1
          go_wp2_with fail
          obtain ⟨hset, hval, hdg, hn1⟩ := HF.out
          refine (trim_wm _ (n + 1) (n + 1) (o ++ [cr]) _ (Rd.of_own hset) hdg (Nat.le_refl _) (by omega)).mono ?_
          rintro e w2 ⟨T, rfl, HT, rfl⟩
          clear hset hval hdg hn1
          go_wp2
          go_ret
          obtain ⟨hset, hval, hdg, hn1⟩ := HF.out
          have hT := HT.out.1
          rw [hval] at hT
          exact ⟨_, _, _, rfl, hT, hn1⟩

theorem addMag_wd (A : Option Addr) (n c : Nat) (A' : Option Addr) (n' c' : Nat) (x y : Nat) (w : World) (hx : WD w A n c x) (hy : WD w A' n' c' y) (hn : n ≤ 1000000) (hn' : n' ≤ 1000000) :
    Calls Try.prog 33 #[.slice A n c, .slice A' n' c'] w fun e w' => ∃ R m d, e = .returned (.slice R m d) ∧ Hid (WM w' R m d (x + y) ∧ New w w') := by
  rcases Nat.lt_or_ge n n' with h | h
  · have := addMag_lt A' n' c' A n c y x w hy hx hn' h
    rwa [Nat.add_comm y x] at this
  · exact addMag_ge A n c A' n' c' x y w hx hy hn h
theorem addMag_any (A : Option Addr) (n c : Nat) (A' : Option Addr) (n' c' : Nat) (x y : Nat) (w : World) (hx : WM w A n c x) (hy : WM w A' n' c' y) (hn : n ≤ 1000000) (hn' : n' ≤ 1000000) :
    Calls Try.prog 33 #[.slice A n c, .slice A' n' c'] w fun e w' => ∃ R m d, e = .returned (.slice R m d) ∧ Hid (WM w' R m d (x + y) ∧ New w w') :=
  addMag_wd A n c A' n' c' x y w hx.wd hy.wd hn hn'
end Go.Proofs.Ytgofjkppeobjfaa

namespace Go.Mem
set_option linter.unusedVariables false
open Go.RowKit
/-- copy of a whole slice into a row of the call's own. -/
theorem wpList_cp {P : Program} {w : World} {t e : TypeId} {z : Value} {bytes : Nat} (hE : Elem P t e z bytes) {ops : Array Oper} {rest : List Oper} {o : Oper} {a : Act} {Q : Exit → Act → World → Prop} (hgd : o.guard = none) (d s : Operand)
    (ho : o.op = .call { callee := .builtin .copy, args := #[d, s], argTypes := #[t, t] }) {g n base k : Nat} {xs ys : List Value} (hd : a.eval d = .slice (some ⟨g, 0, none⟩) k k) (hown : w.ownsRow base e 1 (.slice (some ⟨g, 0, none⟩) k k) k xs)
    {A : Option Addr} {c : Nat} (hs : a.eval s = .slice A n c) (hnk : n ≤ k) (hr : Rd w A n ys) (h1 : ∀ v ∈ ys, v.oneCell' = true)
    (h : ∀ w', w'.ownsRow base e 1 (.slice (some ⟨g, 0, none⟩) k k) k (ys ++ xs.drop n) → Chg (fun j => j = g) w w' → wpList P ops Q rest (a.put o.dst (goInt n)) w') :
    wpList P ops Q (o :: rest) a w := by
  obtain ⟨ht, ⟨i, hi, hz0, hz1, hz2⟩, hzs⟩ := hE
  have hsz : (P.info? e).map (·.size) = some 1 := by rw [hi]; simp [hz1]
  have hyl := hr.len
  rcases hown.2 with ⟨hv, _⟩ | ⟨g', cap, cur, hv, hbg, hg, hnc, hcm, hcs, htake⟩
  · cases hv
  · injection hv with hv1 _ hv3
    injection hv1 with hv1
    injection hv1 with hv1
    subst hv1 hv3
    rw [Nat.mul_one] at hcs htake
    have hxs : cur.toList = xs := by rw [← htake, List.take_of_length_le (by simp [hcs])]
    rcases Nat.eq_zero_or_pos n with h0 | h0
    · subst h0
      have hy0 : ys = [] := List.eq_nil_of_length_eq_zero hyl
      subst hy0
      refine wpList_copy_nothing hgd d s t t ho e ht hsz _ _ _ _ _ _ hd hs (by simp) ?_
      exact h w (by simpa using hown) (Chg.refl _ _)
    · obtain ⟨ad, rfl, hcell⟩ := hr.2 h0
      refine wpList_copy_own hgd d s t t ho e ht hsz g 0 k k ad n c hd hs cur e hg ys (by rw [hyl]; simp [Nat.min_eq_left hnk]) hcell (by rw [hyl, hcs]; omega) h1 ?_
      rw [hyl]
      refine h _ ⟨?_, .inr ⟨g, k, _, rfl, hbg, setRow_heap w g cur _ e _ hg, Nat.le_refl _, hcm, ?_, ?_⟩⟩ ⟨rfl, rfl, rfl, by simp [World.setRow], fun j hj hn => setRow_other w g j _ hn⟩
      · have := hown.1
        rw [List.length_append, List.length_drop, hyl, this]; omega
      · rw [hxs]
        have := hown.1
        simp only [List.size_toArray, List.length_append, List.length_take, List.length_drop, hyl, this]
        omega
      · have := hown.1
        rw [hxs, List.take_zero, List.nil_append, Nat.zero_add, Nat.mul_one, List.take_of_length_le]
        rw [List.length_append, List.length_drop, hyl, this]; omega
end Go.Mem
namespace Go.Proofs.Ytgofjkppeobjfaa
set_option linter.unusedVariables false
open Go.RowKit Go.Mem Go.Dig

theorem subWrap {d t v b : Nat} (hd : d < 4294967296) (ht : t ≤ 4294967296) (hv : v + t = d + 4294967296 * b) (hb : b ≤ 1) (hvb : v < 4294967296) : IntKind.u32.wrap ((d : Int) - (t : Int) % 4294967296) = (v : Int) := by
  rw [IntKind.wrap_u32]
  omega

set_option maxHeartbeats 1000000 in
/-- The closure step of subMag. -/
theorem subStep_any (i n y br d : Nat) (l : List Nat) (hi : i < n) (hn : n ≤ 1000000) (hy : y < 4294967296) (hbr : br ≤ 1) (gb gl g : Nat) (hg1 : gb ≠ g) (hg2 : gl ≠ g) (hg3 : gb ≠ gl) (w : World) (hb : Blk w gb 22 #[.int .u64 br]) (hl : Blk w gl 35 #[.slice (some ⟨g, 0, none⟩) n n])
    (hown : w.ownsRow g 61 1 (.slice (some ⟨g, 0, none⟩) n n) n (nv .u32 l)) (hd : l[i]? = some d) (hdb : d < 4294967296) :
    Calls Try.prog 57 #[.int .i64 i, .int .u32 y, .pointer (some ⟨gb, 0, none⟩), .pointer (some ⟨gl, 0, none⟩)] w fun e w' => (∃ v, e = .returned v) ∧ ∃ v b : Nat, v < 4294967296 ∧ b ≤ 1 ∧ v + y + br = d + 4294967296 * b ∧
      Blk w' gb 22 #[.int .u64 b] ∧ w'.ownsRow g 61 1 (.slice (some ⟨g, 0, none⟩) n n) n (nv .u32 (l.set i v)) ∧ Chg (fun k => k = gb ∨ k = g) w w' := by
  have hc := hb.cell 0 (u := .int .u64 br) rfl
  have hf := hb.frozen 0
  have hcl := hl.cell 0 (u := .slice (some ⟨g, 0, none⟩) n n) rfl
  have hcd := own_cell hown (i := i) (u := .int .u32 (d : Nat)) (by rw [nv, List.getElem?_map, hd]; rfl)
  have hfd := own_frz hown (by omega) i
  obtain ⟨t, ht⟩ : ∃ t, y + br = t := ⟨_, rfl⟩
  have hti : (y : Int) + (br : Int) = (t : Int) := by omega
  have htb : t ≤ 4294967296 := by omega
  have HB := Lib.hid (And.intro hb hown)
  have hii : (i : Int) < (n : Int) := by omega
  clear hb hown hl hd
  have fin : ∀ v b : Nat, v < 4294967296 → Blk (((w.setCell ⟨gb, 0, none⟩ (.int .u64 0)).setCell ⟨gb, 0, none⟩ (.int .u64 (b : Int))).setCell ⟨g, i, none⟩ (.int .u32 (v : Int))) gb 22 #[.int .u64 (b : Int)] ∧
      (((w.setCell ⟨gb, 0, none⟩ (.int .u64 0)).setCell ⟨gb, 0, none⟩ (.int .u64 (b : Int))).setCell ⟨g, i, none⟩ (.int .u32 (v : Int))).ownsRow g 61 1 (.slice (some ⟨g, 0, none⟩) n n) n (nv .u32 (l.set i v)) ∧ Chg (fun k => k = gb ∨ k = g) w (((w.setCell ⟨gb, 0, none⟩ (.int .u64 0)).setCell ⟨gb, 0, none⟩ (.int .u64 (b : Int))).setCell ⟨g, i, none⟩ (.int .u32 (v : Int))) := fun v b hv => by
    obtain ⟨hb, hown⟩ := HB.out
    refine ⟨(((hb.set1 _).set1 _).far (p := ⟨g, i, none⟩) hg1 _), ?_, (((Chg.refl (fun k => k = gb ∨ k = g) w).setCell (p := ⟨gb, 0, none⟩) (fun _ => .inl rfl) _).setCell (p := ⟨gb, 0, none⟩) (fun _ => .inl rfl) _).setCell (p := ⟨g, i, none⟩) (fun _ => .inr rfl) _⟩
    have h1 : Chg (fun k => k = gb) w ((w.setCell ⟨gb, 0, none⟩ (.int .u64 0)).setCell ⟨gb, 0, none⟩ (.int .u64 (b : Int))) := ((Chg.refl (fun k => k = gb) w).setCell (p := ⟨gb, 0, none⟩) (fun _ => rfl) _).setCell (p := ⟨gb, 0, none⟩) (fun _ => rfl) _
    have h2 := own_set (own_chg hown h1 (fun k hk e => by simp [blk] at hk; omega)) i (.int .u32 (v : Int)) hi
    rwa [nv_set] at h2
  have HF := Lib.hid fin
  clear fin
  by_cases hlt : d < t
  · have hgt : (d : Int) < (t : Int) := by omega
    obtain ⟨v, hv⟩ : ∃ v, d + 4294967296 - t = v := ⟨_, rfl⟩
    have hvw : IntKind.u32.wrap ((d : Int) - (t : Int) % 4294967296) = (v : Int) := subWrap hdb htb (b := 1) (by omega) (by omega) (by omega)
    have HV : Hid (v < 4294967296 ∧ v + y + br = d + 4294967296 * 1) := ⟨by omega, by omega⟩
    clear hv ht
    go_enter Try.func57, Try.ntmps57
    go_wp2
    refine bodyPost_end (results_none rfl _ _ _) rfl ⟨⟨_, rfl⟩, v, 1, HV.out.1, by omega, HV.out.2, ?_⟩
    have := HF.out v 1 HV.out.1
    rwa [show ((1 : Nat) : Int) = 1 from rfl] at this
  · have hgt : decide ((d : Int) < (t : Int)) = false := by simp; omega
    have hgt' : decide (d < t) = false := by simp; omega
    obtain ⟨v, hv⟩ : ∃ v, d - t = v := ⟨_, rfl⟩
    have hvw : (d : Int) - (t : Int) = (v : Int) := by omega
    have htm : (t : Int) % 4294967296 = (t : Int) := by omega
    have HV : Hid (v < 4294967296 ∧ v + y + br = d + 4294967296 * 0) := ⟨by omega, by omega⟩
    have htd : t ≤ d := by omega
    clear hv ht
    go_enter Try.func57, Try.ntmps57
    go_wp2
    refine bodyPost_end (results_none rfl _ _ _) rfl ⟨⟨_, rfl⟩, v, 0, HV.out.1, by omega, HV.out.2, ?_⟩
    obtain ⟨hb, hown⟩ := HB.out
    have h1 : Chg (fun k => k = gb) w (w.setCell ⟨gb, 0, none⟩ (.int .u64 0)) := (Chg.refl (fun k => k = gb) w).setCell (p := ⟨gb, 0, none⟩) (fun _ => rfl) _
    have h2 := own_set (own_chg hown h1 (fun k hk e => by simp [blk] at hk; omega)) i (.int .u32 (v : Int)) hi
    rw [nv_set] at h2
    exact ⟨(hb.set1 (.int .u64 0)).far (p := ⟨g, i, none⟩) hg1 _, h2, (h1.mono (fun _ _ h => .inl h)).setCell (p := ⟨g, i, none⟩) (fun _ => .inr rfl) _⟩

/-- What the loops of subMag hold. -/
def SbI (W : World) (gs gl gb : Nat) (la lb : List Nat) (n k br : Nat) (wr : World) : Prop :=
  ∃ o, SubI 4294967296 la lb k o br ∧ wr.ownsRow gs 61 1 (.slice (some ⟨gs, 0, none⟩) n n) n (nv .u32 (o ++ la.drop k)) ∧ Blk wr gb 22 #[.int .u64 br] ∧ Blk wr gl 35 #[.slice (some ⟨gs, 0, none⟩) n n] ∧ Chg (fun j => j = gs ∨ j = gb) W wr
theorem set_drop {o la : List Nat} {k d : Nat} (hk : o.length = k) (hd : la[k]? = some d) (v : Nat) : (o ++ la.drop k).set k v = (o ++ [v]) ++ la.drop (k + 1) := by
  subst hk
  obtain ⟨h, rfl⟩ := List.getElem?_eq_some_iff.1 hd
  rw [List.set_append_right _ _ (Nat.le_refl _), Nat.sub_self, List.drop_eq_getElem_cons h, List.set_cons_zero, List.append_assoc]
  rfl
theorem at_drop {o la : List Nat} {k d : Nat} (hk : o.length = k) (hd : la[k]? = some d) : (o ++ la.drop k)[k]? = some d := by
  subst hk
  rw [List.getElem?_append_right (Nat.le_refl _), Nat.sub_self, List.getElem?_drop, Nat.add_zero, hd]
/-- One step. -/
theorem sbi_step {W : World} {gs gl gb : Nat} {la lb : List Nat} {n k br y d : Nat} {wo : World} (hla : la.length = n) (hk : k < n) (hn : n ≤ 1000000) (hda : Digs 4294967296 la) (hdb : Digs 4294967296 lb) (hd : la[k]? = some d) (hy : dg lb k = y) (hg : gs < gl ∧ gl < gb) (h : SbI W gs gl gb la lb n k br wo) :
    Calls Try.prog 57 #[.int .i64 k, .int .u32 y, .pointer (some ⟨gb, 0, none⟩), .pointer (some ⟨gl, 0, none⟩)] wo fun e w' => (∃ v, e = .returned v) ∧ ∃ b : Nat, b ≤ 1 ∧ Hid (SbI W gs gl gb la lb n (k + 1) b w') := by
  obtain ⟨o, hS, hown, hbb, hbl, hch⟩ := h
  have hyb := dg_lt hdb (by omega) k
  rw [hy] at hyb
  refine (subStep_any k n y br d _ hk hn hyb hS.borrow gb gl gs (by omega) (by omega) (by omega) wo hbb hbl hown (at_drop hS.len hd) (hda.at_ hd)).mono ?_
  rintro e w' ⟨hv, v, b, h1, h2, h3, h4, h5, h6⟩
  refine ⟨hv, b, h2, o ++ [v], hS.step (by omega) hda hdb h1 h2 (by rw [hy, dg_some hd]; exact h3), ?_, h4, hbl.chg h6 (by omega), ?_⟩
  · rw [set_drop hS.len hd] at h5; exact h5
  · exact hch.trans h6 (fun _ _ h => by omega)

set_option maxRecDepth 100000 in
set_option maxHeartbeats 4000000 in
theorem subMag_any (A : Option Addr) (n c : Nat) (A' : Option Addr) (n' c' : Nat) (x y : Nat) (w : World) (hx : WM w A n c x) (hy : WM w A' n' c' y) (hle : y ≤ x) (hn : n ≤ 1000000) :
    Calls Try.prog 34 #[.slice A n c, .slice A' n' c'] w fun e w' => ∃ R m d, e = .returned (.slice R m d) ∧ Hid (WM w' R m d (x - y) ∧ New w w') := by
  obtain ⟨la, ha, hc1, hc2, hNa⟩ := hx
  obtain ⟨lb, hb, hd1, hd2, hNb⟩ := hy
  have hla : la.length = n := by have := ha.len; rwa [nv_length] at this
  have hlb : lb.length = n' := by have := hb.len; rwa [nv_length] at this
  have hnn : n' ≤ n := by
    rcases Nat.lt_or_ge n n' with h | h
    · have := hNa.len_lt (by omega) hNb (by omega); omega
    · exact h
  have H0 := Lib.hid (And.intro ha (And.intro hb (And.intro hNa (And.intro hNb (And.intro hla (And.intro hlb hle))))))
  clear ha hb hNa hNb hla hlb hle
  go_enter Try.func34, Try.ntmps34
  go_wp2_with (first
    | (at_make; refine wpList_mk elemU32 rfl rfl _ _ rfl (n := n) rfl rfl rfl rfl (by omega) (by simp only [maxLen]; omega) ?_; intro w1 hown hg hz; have HMK := Lib.hid (And.intro hown (And.intro hg hz)); clear hown hg hz)
    | ((with_reducible refine wpList_cp elemU32 rfl (.tmp 14) (.tmp 15) rfl rfl (HMK.out.1.alloc _) rfl (Nat.le_refl _) (H0.out.1.new (HMK.out.2.1.alloc _)) (nv_one _) ?_); intro w2 hown2 hch2; have HCP := Lib.hid (And.intro hown2 hch2); clear hown2 hch2))
  obtain ⟨ho, hnw, hz⟩ := HMK.out
  obtain ⟨hown2, hch2⟩ := HCP.out
  have hb0 := Blk.new w1 35 #[.slice (some ⟨w.heap.size, 0, none⟩) n n]
  have hbl2 := hb0.chg hch2 (by omega)
  have hnw2 : New w w2 := Chg.owned (hnw.alloc _) hch2 (fun k e => by omega)
  rw [List.drop_of_length_le (by simp), List.append_nil] at hown2
  refine Code.new1 ?_
  intro W hbb hnW hzW
  obtain ⟨gs, hgs⟩ : ∃ g, w.heap.size = g := ⟨_, rfl⟩
  obtain ⟨gl, hgl⟩ : ∃ g, w1.heap.size = g := ⟨_, rfl⟩
  obtain ⟨gb, hgb⟩ : ∃ g, w2.heap.size = g := ⟨_, rfl⟩
  have hlt : gs < gl ∧ gl < gb := by have h1 := hbl2.lt; omega
  rw [hgs] at hown2 hbl2
  rw [hgl] at hbl2
  rw [hgb] at hbb
  have HW : Hid (New w W ∧ SbI W gs gl gb la lb n 0 0 W) := ⟨hnw2.new hnW, [], SubI.start _ _ _, own_chg hown2 hnW (fun _ _ h => h), hbb, hbl2.chg hnW (fun h => h), Chg.refl _ _⟩
  have HG := Lib.hid (And.intro hgs hlt)
  simp only [hgs, hgl, hgb]
  clear ho hnw hz hown2 hch2 hb0 hbl2 hnw2 hbb hnW hzW hgs hgl hgb hlt HMK HCP
  go_loopw [20] (fun v wr => ∃ k br : Nat, v = .int .i64 k ∧ k ≤ n' ∧ br ≤ 1 ∧ Hid (SbI W gs gl gb la lb n k br wr)) (fun v _ => n' - (intOf v).toNat)
  case atStart => exact ⟨0, 0, rfl, by omega, by omega, HW.out.2⟩
  case round =>
    obtain ⟨i, br, rfl, hi, hbr, HO⟩ := hrel
    by_cases hlt : i < n'
    · obtain ⟨wo, rfl⟩ : ∃ wo : World, wo = wr := ⟨_, rfl⟩
      obtain ⟨ha, hb, hNa, hNb, hla, hlb, hle⟩ := H0.out
      have hchg : Chg (fun j => j = gs ∨ j = gb) w wo := (HW.out.1.mono (fun _ _ h => h.elim)).trans HO.out.choose_spec.2.2.2.2 (fun _ _ h => h)
      obtain ⟨bd, v, rfl, hv, hcv⟩ := (hb.chg hchg (fun k _ h e => by have := HG.out; omega)).at_ hlt
      obtain ⟨r, hr, rfl⟩ := nv_at hv
      obtain ⟨d, hd⟩ : ∃ d, la[i]? = some d := ⟨_, List.getElem?_eq_getElem (by omega)⟩
      have hst := sbi_step hla (show i < n by omega) hn hNa.digs hNb.digs hd (dg_some hr) HG.out.2 HO.out
      have HS := Lib.hid hst
      clear ha hb hNa hNb hla hlb hle hchg hv hr hd hst
      go_wp2_with fail
      refine HS.out.mono ?_
      rintro e w5 ⟨⟨ve, rfl⟩, b, hb1, H5⟩
      go_wp2
      go_roundw
      case rel => exact ⟨i + 1, b, by go_num, by omega, hb1, H5.out⟩
      case measure => simp [intOf]; omega
    · obtain rfl : n' = i := by omega
      go_wp2_with fail
      go_loopw [10] (fun v wr => ∃ k br : Nat, v = .int .i64 k ∧ n' ≤ k ∧ k ≤ n ∧ br ≤ 1 ∧ Hid (SbI W gs gl gb la lb n k br wr)) (fun v _ => n - (intOf v).toNat)
      case atStart => exact ⟨n', br, rfl, Nat.le_refl _, hnn, hbr, HO.out⟩
      case round =>
        clear HO
        obtain ⟨wo, rfl⟩ : ∃ wo : World, wo = wr := ⟨_, rfl⟩
        obtain ⟨i, br, rfl, hi1, hi2, hbr, HO⟩ := hrel
        obtain ⟨o, hS, hown, hbb, hbl, hch⟩ := HO.out
        have kb := hbb.cell 0 (u := .int .u64 br) rfl
        have kl := hbl.cell 0 (u := .slice (some ⟨gs, 0, none⟩) n n) rfl
        have HX := Lib.hid (And.intro hS (And.intro hown hch))
        clear hS hown hbb hbl hch
        by_cases hgo : i < n ∧ br = 1
        · obtain ⟨hlt, rfl⟩ := hgo
          obtain ⟨ha, hb, hNa, hNb, hla, hlb, hle⟩ := H0.out
          obtain ⟨d, hd⟩ : ∃ d, la[i]? = some d := ⟨_, List.getElem?_eq_getElem (by omega)⟩
          have hst := sbi_step hla hlt hn hNa.digs hNb.digs hd (dg_none (l := lb) (by omega)) HG.out.2 HO.out
          rw [show ((0 : Nat) : Int) = 0 from rfl] at hst
          have HS := Lib.hid hst
          have hlti : (i : Int) < (n : Int) := by omega
          clear ha hb hNa hNb hla hlb hle hd hst HX
          go_wp2_with fail
          refine HS.out.mono ?_
          rintro e w5 ⟨⟨ve, rfl⟩, b, hb1, H5⟩
          go_wp2
          go_roundw
          case rel => exact ⟨i + 1, b, by go_num, by omega, by omega, hb1, H5.out⟩
          case measure => simp [intOf]; omega
        · have hfin : val 4294967296 (o ++ la.drop i) = x - y ∧ Digs 4294967296 (o ++ la.drop i) ∧ Rd wo (some ⟨gs, 0, none⟩) n (nv .u32 (o ++ la.drop i)) ∧ New w wo := by
            obtain ⟨ha, hb, hNa, hNb, hla, hlb, hle⟩ := H0.out
            obtain ⟨hS, hown, hch⟩ := HX.out
            refine ⟨?_, hS.digs.app (hNa.digs.drop i), Rd.of_own hown, Chg.owned HW.out.1 hch (fun k e => by have := HG.out; omega)⟩
            have hbz : br = 0 := by
              rcases Nat.lt_or_ge i n with h | h
              · omega
              · obtain rfl : i = n := by omega
                have e := hS.eq
                rw [List.take_of_length_le (by omega), List.take_of_length_le (by omega), hNa.val, hNb.val] at e
                have hv := val_lt hS.digs
                rw [hS.len] at hv
                have hbr0 : br = 0 ∨ br = 1 := by omega
                rcases hbr0 with h0 | h0
                · exact h0
                · rw [h0, Nat.mul_one] at e; omega
            have e := hS.eq
            rw [hbz, Nat.mul_zero, Nat.add_zero, List.take_of_length_le (l := lb) (by omega), hNb.val] at e
            have hsp := val_split 4294967296 la i (by omega)
            rw [hNa.val] at hsp
            rw [val_append, hS.len]
            omega
          have HF := Lib.hid hfin
          clear hfin HX
          have hguard : (i < n ∧ br = 0) ∨ ¬ i < n := by omega
          clear hgo
          rcases hguard with ⟨hlt, rfl⟩ | hlt
          · have hlti : (i : Int) < (n : Int) := by omega
            go_wp2_with fail
            obtain ⟨hval, hdg, hrd, hnw⟩ := HF.out
            refine (trim_wm _ n n (o ++ la.drop i) wo hrd hdg (Nat.le_refl _) (by omega)).mono ?_
            rintro e w2 ⟨T, rfl, HT, rfl⟩
            clear hval hdg hrd hnw
            go_wp2
            go_ret
            obtain ⟨hval, hdg, hrd, hnw⟩ := HF.out
            have hT := HT.out.1
            rw [hval] at hT
            exact ⟨_, _, _, rfl, hT, hnw⟩
          · have hlti : decide ((i : Int) < (n : Int)) = false := by simp; omega
            have hlti' : decide (i < n) = false := by simp; omega
            go_wp2_with fail
            obtain ⟨hval, hdg, hrd, hnw⟩ := HF.out
            refine (trim_wm _ n n (o ++ la.drop i) wo hrd hdg (Nat.le_refl _) (by omega)).mono ?_
            rintro e w2 ⟨T, rfl, HT, rfl⟩
            clear hval hdg hrd hnw
            go_wp2
            go_ret
            obtain ⟨hval, hdg, hrd, hnw⟩ := HF.out
            have hT := HT.out.1
            rw [hval] at hT
            exact ⟨_, _, _, rfl, hT, hnw⟩
end Go.Proofs.Ytgofjkppeobjfaa

namespace Go.Proofs.Ytgofjkppeobjfaa
set_option linter.unusedVariables false
open Go.RowKit Go.Mem Go.Dig

theorem made_h (s : Bool) (R : Option Addr) (k d m : Nat) (w : World) (h : Hid (WM w R k d m)) :
    Calls Try.prog 25 #[.bool s, .slice R k d] w fun e w' => ∃ s' A' n' c', e = .returned (.agg #[.bool s', .slice A' n' c']) ∧ Hid (WI w' (.agg #[.bool s', .slice A' n' c']) (sg s m)) ∧ Hid (New w w') := by
  obtain ⟨l, hr, hnc, hc, hN⟩ := h.out
  refine (made_wi s R k d l w hr hN.digs hnc hc).mono ?_
  rintro e w' ⟨v, rfl, ⟨s', A', n', c', rfl, h1, h2⟩, hn⟩
  rw [hN.val] at h1 h2
  exact ⟨s', A', n', c', rfl, ⟨s', A', n', c', rfl, h1, h2⟩, hn⟩

set_option maxRecDepth 100000 in
set_option maxHeartbeats 2000000 in
theorem total_same (s : Bool) (A : Option Addr) (n c : Nat) (A' : Option Addr) (n' c' : Nat) (x y : Nat) (w : World) (hx : WM w A n c x) (hy : WM w A' n' c' y) (hn : n ≤ 1000000) (hn' : n' ≤ 1000000) :
    Calls Try.prog 58 #[.agg #[.bool s, .slice A n c], .agg #[.bool s, .slice A' n' c']] w fun e w' => ∃ sr Ar nr cr, e = .returned (.agg #[.bool sr, .slice Ar nr cr]) ∧ Hid (WI w' (.agg #[.bool sr, .slice Ar nr cr]) (sg s (x + y)) ∧ New w w') := by
  have H0 := Lib.hid (And.intro hx hy)
  clear hx hy
  go_enter Try.func58, Try.ntmps58
  go_wp2_with fail
  refine Code.new3 ?_
  intro W hb1 hb2 hb3 hnW hzW
  have hc10 := hb1.cell 0 (u := .bool s) rfl
  have hc11 := hb1.cell 1 (u := .slice A n c) rfl
  have hc21 := hb2.cell 1 (u := .slice A' n' c') rfl
  have hc30 := hb3.cell 0 (u := .bool false) rfl
  have hc31 := hb3.cell 1 (u := .slice none 0 0) rfl
  have hf30 := hb3.frozen 0
  have hf31 := hb3.frozen 1
  have hcal : ∀ W', New W W' → Calls Try.prog 33 #[.slice A n c, .slice A' n' c'] W' fun e w' => ∃ R k d, e = .returned (.slice R k d) ∧ Hid (WM w' R k d (x + y)) ∧ Hid (New W w') := fun W' h =>
    (addMag_any A n c A' n' c' x y W' (H0.out.1.new (hnW.new h)) (H0.out.2.new (hnW.new h)) hn hn').mono fun e w' ⟨R, k, d, h1, h2⟩ => ⟨R, k, d, h1, h2.out.1, h.new h2.out.2⟩
  have HP := Lib.hid hcal
  have HB := Lib.hid (And.intro hb1 (And.intro hb2 (And.intro hb3 hnW)))
  clear hcal hb1 hb2 hb3 hnW
  go_region_held3 (fun w' => w'.cell? ⟨w.heap.size, 0, none⟩ = some (.bool s) ∧ w'.cell? ⟨w.heap.size, 1, none⟩ = some (.slice A n c) ∧ w'.cell? ⟨w.heap.size + 1, 1, none⟩ = some (.slice A' n' c')) (first | exact ⟨by assumption, by assumption, by assumption⟩ | exact ⟨far2 he10 (by dsimp only; omega) _ _, far2 he11 (by dsimp only; omega) _ _, far2 he21 (by dsimp only; omega) _ _⟩)
    (first
      | (go_at_call 33; refine (HP.out _ ?_).mono ?_; exact (Chg.refl _ _).drew; rintro e w5 ⟨R, k, d, rfl, HO5, HN5⟩; have hd10 := HN5.out.cell hc10 (fun h => h); have hd11 := HN5.out.cell hc11 (fun h => h); have hd21 := HN5.out.cell hc21 (fun h => h); have hd30 := HN5.out.cell hc30 (fun h => h); have hd31 := HN5.out.cell hc31 (fun h => h); have hg30 := (HB.out.2.2.1.chg HN5.out (fun h => h)).frozen 0; have hg31 := (HB.out.2.2.1.chg HN5.out (fun h => h)).frozen 1)
      | (go_at_call 25; refine (made_h s R k d _ _ HO5).mono ?_; rintro e w6 ⟨s6, A6, n6, c6, rfl, H6, HN6⟩; have he10 := HN6.out.cell hd10 (fun h => h); have he11 := HN6.out.cell hd11 (fun h => h); have he21 := HN6.out.cell hd21 (fun h => h); have he30 := HN6.out.cell hd30 (fun h => h); have he31 := HN6.out.cell hd31 (fun h => h); have hh30 := ((HB.out.2.2.1.chg HN5.out (fun h => h)).chg HN6.out (fun h => h)).frozen 0; have hh31 := ((HB.out.2.2.1.chg HN5.out (fun h => h)).chg HN6.out (fun h => h)).frozen 1))
  all_goals
    clear hc10 hc11 hc21 hc30 hc31 hf30 hf31 hd10 hd11 hd21 hd30 hd31 hg30 hg31
    go_wp2
    have hb6 := (HB.out.2.2.1.chg HN5.out (fun h => h)).chg HN6.out (fun h => h)
    refine bodyPost_ret (res_c rfl _ rfl (aggInt.load (hb6.set2 _ _))) rfl ⟨s6, A6, n6, c6, rfl, H6.out.store hb6 (noInt_two _ _ _ _) (Chg.at2 _ _ _ _), ?_⟩
    exact Chg.owned (HB.out.2.2.2.new (HN5.out.new HN6.out)) (Chg.at2 _ _ _ _) (fun k e => by omega)

set_option maxRecDepth 100000 in
set_option maxHeartbeats 2000000 in
theorem total_ge (s s' : Bool) (hss : (s == s') = false) (A : Option Addr) (n c : Nat) (A' : Option Addr) (n' c' : Nat) (x y : Nat) (w : World) (hx : WM w A n c x) (hy : WM w A' n' c' y) (hn : n ≤ 1000000) (hn' : n' ≤ 1000000) (hlt : y ≤ x) :
    Calls Try.prog 58 #[.agg #[.bool s, .slice A n c], .agg #[.bool s', .slice A' n' c']] w fun e w' => ∃ sr Ar nr cr, e = .returned (.agg #[.bool sr, .slice Ar nr cr]) ∧ Hid (WI w' (.agg #[.bool sr, .slice Ar nr cr]) (sg s ((x - y : Nat))) ∧ New w w') := by
  have H0 := Lib.hid (And.intro hx hy)
  clear hx hy
  go_enter Try.func58, Try.ntmps58
  go_wp2_with fail
  refine Calls.new3 ?_
  intro W0 hb1 hb2 hb3 hnW hzW
  refine (cmpMag_any A n c A' n' c' x y W0 (H0.out.1.new hnW) (H0.out.2.new hnW)).mono ?_
  rintro e W ⟨rfl, q, hq⟩
  have hcv : decide ((0 : Int) ≤ cmpI (x : Int) (y : Int)) = true := by
    unfold cmpI
    rw [if_neg (by omega)]
    split <;> decide
  generalize cmpI (x : Int) (y : Int) = cv at *
  have hnq : New W0 W := by rw [hq]; exact (Chg.refl _ _).drewN q
  replace hb1 := hb1.chg hnq (fun h => h)
  replace hb2 := hb2.chg hnq (fun h => h)
  replace hb3 := hb3.chg hnq (fun h => h)
  replace hnW := hnW.new hnq
  have hc10 := hb1.cell 0 (u := .bool s) rfl
  have hc11 := hb1.cell 1 (u := .slice A n c) rfl
  have hc21 := hb2.cell 1 (u := .slice A' n' c') rfl
  have hc30 := hb3.cell 0 (u := .bool false) rfl
  have hc31 := hb3.cell 1 (u := .slice none 0 0) rfl
  have hf30 := hb3.frozen 0
  have hf31 := hb3.frozen 1
  have hcal : ∀ W', New W W' → Calls Try.prog 34 #[.slice A n c, .slice A' n' c'] W' fun e w' => ∃ R k d, e = .returned (.slice R k d) ∧ Hid (WM w' R k d (x - y)) ∧ Hid (New W w') := fun W' h =>
    (subMag_any A n c A' n' c' x y W' (H0.out.1.new (hnW.new h)) (H0.out.2.new (hnW.new h)) hlt hn).mono fun e w' ⟨R, k, d, h1, h2⟩ => ⟨R, k, d, h1, h2.out.1, h.new h2.out.2⟩
  have HP := Lib.hid hcal
  have HB := Lib.hid (And.intro hb1 (And.intro hb2 (And.intro hb3 hnW)))
  clear hcal hb1 hb2 hb3 hnW hq hnq hzW
  go_wp2_with fail
  go_region_held3 (fun w' => w'.cell? ⟨w.heap.size, 0, none⟩ = some (.bool s) ∧ w'.cell? ⟨w.heap.size, 1, none⟩ = some (.slice A n c) ∧ w'.cell? ⟨w.heap.size + 1, 1, none⟩ = some (.slice A' n' c')) (first | exact ⟨by assumption, by assumption, by assumption⟩ | exact ⟨far2 he10 (by dsimp only; omega) _ _, far2 he11 (by dsimp only; omega) _ _, far2 he21 (by dsimp only; omega) _ _⟩)
    (first
      | (go_at_call 34; refine (HP.out _ ?_).mono ?_; exact (Chg.refl _ _).drew; rintro e w5 ⟨R, k, d, rfl, HO5, HN5⟩; have hd10 := HN5.out.cell hc10 (fun h => h); have hd11 := HN5.out.cell hc11 (fun h => h); have hd21 := HN5.out.cell hc21 (fun h => h); have hd30 := HN5.out.cell hc30 (fun h => h); have hd31 := HN5.out.cell hc31 (fun h => h); have hg30 := (HB.out.2.2.1.chg HN5.out (fun h => h)).frozen 0; have hg31 := (HB.out.2.2.1.chg HN5.out (fun h => h)).frozen 1)
      | (go_at_call 25; refine (made_h s R k d _ _ HO5).mono ?_; rintro e w6 ⟨s6, A6, n6, c6, rfl, H6, HN6⟩; have he10 := HN6.out.cell hd10 (fun h => h); have he11 := HN6.out.cell hd11 (fun h => h); have he21 := HN6.out.cell hd21 (fun h => h); have he30 := HN6.out.cell hd30 (fun h => h); have he31 := HN6.out.cell hd31 (fun h => h); have hh30 := ((HB.out.2.2.1.chg HN5.out (fun h => h)).chg HN6.out (fun h => h)).frozen 0; have hh31 := ((HB.out.2.2.1.chg HN5.out (fun h => h)).chg HN6.out (fun h => h)).frozen 1))
  all_goals
    clear hc10 hc11 hc21 hc30 hc31 hf30 hf31 hd10 hd11 hd21 hd30 hd31 hg30 hg31
    go_wp2
    have hb6 := (HB.out.2.2.1.chg HN5.out (fun h => h)).chg HN6.out (fun h => h)
    refine bodyPost_ret (res_c rfl _ rfl (aggInt.load (hb6.set2 _ _))) rfl ⟨s6, A6, n6, c6, rfl, H6.out.store hb6 (noInt_two _ _ _ _) (Chg.at2 _ _ _ _), ?_⟩
    exact Chg.owned (HB.out.2.2.2.new (HN5.out.new HN6.out)) (Chg.at2 _ _ _ _) (fun k e => by omega)

set_option maxRecDepth 100000 in
set_option maxHeartbeats 2000000 in
theorem total_lt (s s' : Bool) (hss : (s == s') = false) (A : Option Addr) (n c : Nat) (A' : Option Addr) (n' c' : Nat) (x y : Nat) (w : World) (hx : WM w A n c x) (hy : WM w A' n' c' y) (hn : n ≤ 1000000) (hn' : n' ≤ 1000000) (hlt : x < y) :
    Calls Try.prog 58 #[.agg #[.bool s, .slice A n c], .agg #[.bool s', .slice A' n' c']] w fun e w' => ∃ sr Ar nr cr, e = .returned (.agg #[.bool sr, .slice Ar nr cr]) ∧ Hid (WI w' (.agg #[.bool sr, .slice Ar nr cr]) (sg s' ((y - x : Nat))) ∧ New w w') := by
  have H0 := Lib.hid (And.intro hx hy)
  clear hx hy
  go_enter Try.func58, Try.ntmps58
  go_wp2_with fail
  refine Calls.new3 ?_
  intro W0 hb1 hb2 hb3 hnW hzW
  refine (cmpMag_any A n c A' n' c' x y W0 (H0.out.1.new hnW) (H0.out.2.new hnW)).mono ?_
  rintro e W ⟨rfl, q, hq⟩
  rw [cmpI_lt (show (x : Int) < (y : Int) by omega)]
  have hneg : decide ((0 : Int) ≤ (-1 : Int)) = false := by decide
  have hnq : New W0 W := by rw [hq]; exact (Chg.refl _ _).drewN q
  replace hb1 := hb1.chg hnq (fun h => h)
  replace hb2 := hb2.chg hnq (fun h => h)
  replace hb3 := hb3.chg hnq (fun h => h)
  replace hnW := hnW.new hnq
  have hc20 := hb2.cell 0 (u := .bool s') rfl
  have hc21 := hb2.cell 1 (u := .slice A' n' c') rfl
  have hc11 := hb1.cell 1 (u := .slice A n c) rfl
  have hc30 := hb3.cell 0 (u := .bool false) rfl
  have hc31 := hb3.cell 1 (u := .slice none 0 0) rfl
  have hf30 := hb3.frozen 0
  have hf31 := hb3.frozen 1
  have hcal : ∀ W', New W W' → Calls Try.prog 34 #[.slice A' n' c', .slice A n c] W' fun e w' => ∃ R k d, e = .returned (.slice R k d) ∧ Hid (WM w' R k d (y - x)) ∧ Hid (New W w') := fun W' h =>
    (subMag_any A' n' c' A n c y x W' (H0.out.2.new (hnW.new h)) (H0.out.1.new (hnW.new h)) (by omega) hn').mono fun e w' ⟨R, k, d, h1, h2⟩ => ⟨R, k, d, h1, h2.out.1, h.new h2.out.2⟩
  have HP := Lib.hid hcal
  have HB := Lib.hid (And.intro hb1 (And.intro hb2 (And.intro hb3 hnW)))
  clear hcal hb1 hb2 hb3 hnW hq hnq hzW
  go_wp2_with fail
  go_region_held3 (fun w' => w'.cell? ⟨w.heap.size + 1, 0, none⟩ = some (.bool s') ∧ w'.cell? ⟨w.heap.size + 1, 1, none⟩ = some (.slice A' n' c') ∧ w'.cell? ⟨w.heap.size, 1, none⟩ = some (.slice A n c)) (first | exact ⟨by assumption, by assumption, by assumption⟩ | exact ⟨far2 he20 (by dsimp only; omega) _ _, far2 he21 (by dsimp only; omega) _ _, far2 he11 (by dsimp only; omega) _ _⟩)
    (first
      | (go_at_call 34; refine (HP.out _ ?_).mono ?_; exact (Chg.refl _ _).drew; rintro e w5 ⟨R, k, d, rfl, HO5, HN5⟩; have hd20 := HN5.out.cell hc20 (fun h => h); have hd21 := HN5.out.cell hc21 (fun h => h); have hd11 := HN5.out.cell hc11 (fun h => h); have hd30 := HN5.out.cell hc30 (fun h => h); have hd31 := HN5.out.cell hc31 (fun h => h); have hg30 := (HB.out.2.2.1.chg HN5.out (fun h => h)).frozen 0; have hg31 := (HB.out.2.2.1.chg HN5.out (fun h => h)).frozen 1)
      | (go_at_call 25; refine (made_h s' R k d _ _ HO5).mono ?_; rintro e w6 ⟨s6, A6, n6, c6, rfl, H6, HN6⟩; have he20 := HN6.out.cell hd20 (fun h => h); have he21 := HN6.out.cell hd21 (fun h => h); have he11 := HN6.out.cell hd11 (fun h => h); have he30 := HN6.out.cell hd30 (fun h => h); have he31 := HN6.out.cell hd31 (fun h => h); have hh30 := ((HB.out.2.2.1.chg HN5.out (fun h => h)).chg HN6.out (fun h => h)).frozen 0; have hh31 := ((HB.out.2.2.1.chg HN5.out (fun h => h)).chg HN6.out (fun h => h)).frozen 1))
  all_goals
    clear hc20 hc21 hc11 hc30 hc31 hf30 hf31 hd20 hd21 hd11 hd30 hd31 hg30 hg31
    go_wp2
    have hb6 := (HB.out.2.2.1.chg HN5.out (fun h => h)).chg HN6.out (fun h => h)
    refine bodyPost_ret (res_c rfl _ rfl (aggInt.load (hb6.set2 _ _))) rfl ⟨s6, A6, n6, c6, rfl, H6.out.store hb6 (noInt_two _ _ _ _) (Chg.at2 _ _ _ _), ?_⟩
    exact Chg.owned (HB.out.2.2.2.new (HN5.out.new HN6.out)) (Chg.at2 _ _ _ _) (fun k e => by omega)

theorem total_any (v v' : Value) (x y : Int) (w : World) (hx : WI w v x) (hy : WI w v' y) (bx : x.natAbs < 2 ^ 1000000) (bY : y.natAbs < 2 ^ 1000000) :
    Calls Try.prog 58 #[v, v'] w fun e w' => ∃ s A n c, e = .returned (.agg #[.bool s, .slice A n c]) ∧ Hid (WI w' (.agg #[.bool s, .slice A n c]) (x + y) ∧ New w w') := by
  obtain ⟨s, A, n, c, rfl, hs, hm⟩ := hx
  obtain ⟨s', A', n', c', rfl, hs', hm'⟩ := hy
  have hn := bz_wlen hm bx
  have hn' := bz_wlen hm' bY
  clear bx bY
  by_cases hss : s = s'
  · subst hss
    have e1 : sg s (x.natAbs + y.natAbs) = x + y := by
      unfold sg
      cases s
      · have : ¬ x < 0 := by simpa using hs.symm
        have : ¬ y < 0 := by simpa using hs'.symm
        simp; omega
      · have : x < 0 := by simpa using hs.symm
        have : y < 0 := by simpa using hs'.symm
        simp; omega
    have := total_same s A n c A' n' c' _ _ w hm hm' hn hn'
    rwa [e1] at this
  · have hb : (s == s') = false := by simp [hss]
    have hsg : (s = true ∧ s' = false ∧ x < 0 ∧ ¬ y < 0) ∨ (s = false ∧ s' = true ∧ ¬ x < 0 ∧ y < 0) := by
      cases s <;> cases s'
      · exact absurd rfl hss
      · exact .inr ⟨rfl, rfl, by simpa using hs.symm, by simpa using hs'.symm⟩
      · exact .inl ⟨rfl, rfl, by simpa using hs.symm, by simpa using hs'.symm⟩
      · exact absurd rfl hss
    rcases Nat.lt_or_ge x.natAbs y.natAbs with hlt | hlt
    · have e1 : sg s' (y.natAbs - x.natAbs : Nat) = x + y := by
        unfold sg
        rcases hsg with ⟨_, rfl, h3, h4⟩ | ⟨_, rfl, h3, h4⟩ <;> simp <;> omega
      have := total_lt s s' hb A n c A' n' c' _ _ w hm hm' hn hn' hlt
      rwa [e1] at this
    · have e1 : sg s (x.natAbs - y.natAbs : Nat) = x + y := by
        unfold sg
        rcases hsg with ⟨rfl, _, h3, h4⟩ | ⟨rfl, _, h3, h4⟩ <;> simp <;> omega
      have := total_ge s s' hb A n c A' n' c' _ _ w hm hm' hn hn' hlt
      rwa [e1] at this

set_option maxRecDepth 100000 in
set_option maxHeartbeats 2000000 in
theorem wadd_any (v v' : Value) (x y : Int) (w : World) (hx : WI w v x) (hy : WI w v' y) (bx : x.natAbs < 2 ^ 1000000) (bY : y.natAbs < 2 ^ 1000000) :
    Calls Try.prog 35 #[v, v'] w fun e w' => ∃ s A n c, e = .returned (.tuple #[.agg #[.bool s, .slice A n c], .int .i64 (rgE (x + y))]) ∧ Hid (WI w' (.agg #[.bool s, .slice A n c]) (rg (x + y)) ∧ New w w') := by
  obtain ⟨s, A, n, c, rfl, hs, hm⟩ := hx
  obtain ⟨s', A', n', c', rfl, hs', hm'⟩ := hy
  have H0 := Lib.hid (And.intro hs (And.intro hm (And.intro hs' (And.intro hm' (And.intro bx bY)))))
  clear hs hs' hm hm' bx bY
  obtain ⟨z, hz⟩ : ∃ z, x + y = z := ⟨_, rfl⟩
  rw [hz]
  have HZ := Lib.hid hz
  clear hz
  go_enter Try.func35, Try.ntmps35
  go_wp2_with fail
  refine Calls.new3 ?_
  intro W hb1 hb2 hb3 hnW hzW
  obtain ⟨hs, hm, hs', hm', bx, bY⟩ := H0.out
  refine (total_any _ _ x y W ⟨s, A, n, c, rfl, hs, hm.new hnW⟩ ⟨s', A', n', c', rfl, hs', hm'.new hnW⟩ bx bY).mono ?_
  rw [HZ.out]
  rintro e w2 ⟨s2, A2, n2, c2, rfl, H2⟩
  have hb4 := hb3.chg H2.out.2 (fun h => h)
  have HB := Lib.hid (And.intro hb4 (hnW.new H2.out.2))
  have hl4 : w.heap.size + 1 + 1 < w2.heap.size := hb4.lt
  have hl5 : w.heap.size + 1 < w2.heap.size := by omega
  clear hb1 hb2 hb3 hnW hzW hs hm hs' hm' bx bY hb4 H0
  go_wp2_with fail
  refine Calls.new1 ?_
  intro W3 hb5 hn3 hz3
  obtain ⟨s3, A3, n3, c3, he, hs3, hm3⟩ := H2.out.1
  injection he with he
  have he' : s2 = s3 ∧ A2 = A3 ∧ n2 = n3 ∧ c2 = c3 := by simpa using he
  obtain ⟨rfl, rfl, rfl, rfl⟩ := he'
  have hran := ranged_wm s2 A2 n2 c2 _ W3 (hm3.new hn3)
  rw [hs3, sg_of] at hran
  rw [← hs3] at hran
  refine hran.mono ?_
  rintro e w6 ⟨s6, A6, n6, c6, rfl, H6⟩
  have hb6 := (HB.out.1.chg hn3 (fun h => h)).chg H6.out.2 (fun h => h)
  have k0 := hb6.cell 0 (u := .bool false) rfl
  have k1 := hb6.cell 1 (u := .slice none 0 0) rfl
  have f0 := hb6.frozen 0
  have f1 := hb6.frozen 1
  have HF := Lib.hid (And.intro hb6 ((HB.out.2.new hn3).new H6.out.2))
  clear hb5 hn3 hz3 hs3 hm3 hran hb6 he
  go_wp2
  obtain ⟨hb6, hn6⟩ := HF.out
  refine bodyPost_ret (res_ct rfl _ rfl (aggInt.load (hb6.set2 _ _)) rfl) rfl ⟨s6, A6, n6, c6, rfl, H6.out.1.store hb6 (noInt_two _ _ _ _) (Chg.at2 _ _ _ _), ?_⟩
  exact Chg.owned hn6 (Chg.at2 _ _ _ _) (fun k e => by omega)

set_option maxRecDepth 100000 in
set_option maxHeartbeats 2000000 in
theorem wsub_any (v v' : Value) (x y : Int) (w : World) (hx : WI w v x) (hy : WI w v' y) (bx : x.natAbs < 2 ^ 1000000) (bY : y.natAbs < 2 ^ 1000000) :
    Calls Try.prog 22 #[v, v'] w fun e w' => ∃ s A n c, e = .returned (.tuple #[.agg #[.bool s, .slice A n c], .int .i64 (rgE (x - y))]) ∧ Hid (WI w' (.agg #[.bool s, .slice A n c]) (rg (x - y)) ∧ New w w') := by
  obtain ⟨s, A, n, c, rfl, hs, hm⟩ := hx
  obtain ⟨s', A', n', c', rfl, hs', hm'⟩ := hy
  have H0 := Lib.hid (And.intro hs (And.intro hm (And.intro hs' (And.intro hm' (And.intro bx bY)))))
  clear hs hm hs' hm' bx bY
  obtain ⟨z, hz⟩ : ∃ z, x - y = z := ⟨_, rfl⟩
  rw [hz]
  have hz' : x + -y = z := by omega
  clear hz
  go_enter Try.func22, Try.ntmps22
  go_wp2_with fail
  refine Code.new3 ?_
  intro W hb1 hb2 hb3 hnW hzW
  have hc10 := hb1.cell 0 (u := .bool s) rfl
  have hc11 := hb1.cell 1 (u := .slice A n c) rfl
  have hc20 := hb2.cell 0 (u := .bool s') rfl
  have hc21 := hb2.cell 1 (u := .slice A' n' c') rfl
  have hc30 := hb3.cell 0 (u := .bool false) rfl
  have hc31 := hb3.cell 1 (u := .slice none 0 0) rfl
  have hf30 := hb3.frozen 0
  have hf31 := hb3.frozen 1
  have hneg : ∀ W', New W W' → Calls Try.prog 36 #[.agg #[.bool s', .slice A' n' c']] W' fun e w' => ∃ s5 A5 n5 c5, e = .returned (.agg #[.bool s5, .slice A5 n5 c5]) ∧ Hid (WI w' (.agg #[.bool s5, .slice A5 n5 c5]) (-y)) ∧ Hid (New W w') := fun W' h =>
    (neg_any _ y W' ⟨s', A', n', c', rfl, H0.out.2.2.1, H0.out.2.2.2.1.new (hnW.new h)⟩).mono fun e w' ⟨v, h1, ⟨s5, A5, n5, c5, h2, h3, h4⟩, h5⟩ => ⟨s5, A5, n5, c5, by rw [h1, h2], ⟨s5, A5, n5, c5, rfl, h3, h4⟩, h.new h5⟩
  have hadd : ∀ s5 A5 n5 c5 w5, Hid (New W w5) → Hid (WI w5 (.agg #[.bool s5, .slice A5 n5 c5]) (-y)) → Calls Try.prog 35 #[.agg #[.bool s, .slice A n c], .agg #[.bool s5, .slice A5 n5 c5]] w5 fun e w' => ∃ s6 A6 n6 c6, e = .returned (.tuple #[.agg #[.bool s6, .slice A6 n6 c6], .int .i64 (rgE z)]) ∧ Hid (WI w' (.agg #[.bool s6, .slice A6 n6 c6]) (rg z)) ∧ Hid (New w5 w') := fun s5 A5 n5 c5 w5 h h' => by
    have := wadd_any _ _ x (-y) w5 ⟨s, A, n, c, rfl, H0.out.1, H0.out.2.1.new (hnW.new h.out)⟩ h'.out H0.out.2.2.2.2.1 (by rw [Int.natAbs_neg]; exact H0.out.2.2.2.2.2)
    rw [hz'] at this
    exact this.mono fun e w' ⟨s6, A6, n6, c6, h1, h2⟩ => ⟨s6, A6, n6, c6, h1, h2.out.1, h2.out.2⟩
  have HP := Lib.hid hneg
  have HP2 := Lib.hid hadd
  have HB := Lib.hid (And.intro hb1 (And.intro hb2 (And.intro hb3 hnW)))
  clear hneg hadd hb1 hb2 hb3 hnW hz'
  go_region_held3 (fun w' => w'.cell? ⟨w.heap.size, 0, none⟩ = some (.bool s) ∧ w'.cell? ⟨w.heap.size, 1, none⟩ = some (.slice A n c) ∧ w'.cell? ⟨w.heap.size + 1, 0, none⟩ = some (.bool s') ∧ w'.cell? ⟨w.heap.size + 1, 1, none⟩ = some (.slice A' n' c')) (first | exact ⟨by assumption, by assumption, by assumption, by assumption⟩ | exact ⟨far2 he10 (by dsimp only; omega) _ _, far2 he11 (by dsimp only; omega) _ _, far2 he20 (by dsimp only; omega) _ _, far2 he21 (by dsimp only; omega) _ _⟩)
    (first
      | (go_at_call 36; refine (HP.out _ ?_).mono ?_; exact (Chg.refl _ _).drew; rintro e w5 ⟨s5, A5, n5, c5, rfl, HO5, HN5⟩; have hd10 := HN5.out.cell hc10 (fun h => h); have hd11 := HN5.out.cell hc11 (fun h => h); have hd20 := HN5.out.cell hc20 (fun h => h); have hd21 := HN5.out.cell hc21 (fun h => h); have hd30 := HN5.out.cell hc30 (fun h => h); have hd31 := HN5.out.cell hc31 (fun h => h); have hg30 := (HB.out.2.2.1.chg HN5.out (fun h => h)).frozen 0; have hg31 := (HB.out.2.2.1.chg HN5.out (fun h => h)).frozen 1)
      | (go_at_call 35; refine (HP2.out s5 A5 n5 c5 w5 HN5 HO5).mono ?_; rintro e w6 ⟨s6, A6, n6, c6, rfl, H6, HN6⟩; have he10 := HN6.out.cell hd10 (fun h => h); have he11 := HN6.out.cell hd11 (fun h => h); have he20 := HN6.out.cell hd20 (fun h => h); have he21 := HN6.out.cell hd21 (fun h => h); have he30 := HN6.out.cell hd30 (fun h => h); have he31 := HN6.out.cell hd31 (fun h => h); have hh30 := ((HB.out.2.2.1.chg HN5.out (fun h => h)).chg HN6.out (fun h => h)).frozen 0; have hh31 := ((HB.out.2.2.1.chg HN5.out (fun h => h)).chg HN6.out (fun h => h)).frozen 1))
  all_goals
    clear hc10 hc11 hc20 hc21 hc30 hc31 hf30 hf31 hd10 hd11 hd20 hd21 hd30 hd31 hg30 hg31
    go_wp2
    have hb6 := (HB.out.2.2.1.chg HN5.out (fun h => h)).chg HN6.out (fun h => h)
    refine bodyPost_ret (res_ct rfl _ rfl (aggInt.load (hb6.set2 _ _)) rfl) rfl ⟨s6, A6, n6, c6, rfl, H6.out.store hb6 (noInt_two _ _ _ _) (Chg.at2 _ _ _ _), ?_⟩
    exact Chg.owned (HB.out.2.2.2.new (HN5.out.new HN6.out)) (Chg.at2 _ _ _ _) (fun k e => by omega)
end Go.Proofs.Ytgofjkppeobjfaa

namespace Go.Proofs.Ytgofjkppeobjfaa
set_option linter.unusedVariables false
open Go.RowKit Go.Mem Go.Dig Go.Pure

theorem from_b (z : Int) (W : World) (h1 : -9223372036854775808 ≤ z) (h2 : z ≤ 9223372036854775807) :
    Calls Try.prog 13 #[.int .i64 z] W fun e w' => ∃ s A n c, e = .returned (.agg #[.bool s, .slice A n c]) ∧ Hid (WI w' (.agg #[.bool s, .slice A n c]) z ∧ New W w') :=
  (from_any z W h1 h2).mono fun e w' ⟨v, h1, ⟨s, A, n, c, h2, h3, h4⟩, h5⟩ => ⟨s, A, n, c, by rw [h1, h2], ⟨s, A, n, c, rfl, h3, h4⟩, h5⟩
theorem powN_two' (k m : Nat) (h : 32 * k = m) : powN k = 2 ^ m := by
  subst h
  unfold powN
  rw [Nat.pow_mul]
theorem powN_le {a b : Nat} (h : a ≤ b) : powN a ≤ powN b := Nat.pow_le_pow_right (by omega) h
theorem run_idx_arr {P : Program} {t e : TypeId} {n : Nat} {cs : Array Value} (k : IntKind) {i : Nat} {u : Value} (W : World) (h : P.underlying t = some (.array n e)) {d : TypeDesc} (he : P.underlying e = some d) (hd : (match d with | .struct _ | .array _ _ => true | _ => false) = false) (hs : (P.info? e).map (·.size) = some 1) (hi : i < n) (hu : cs[i]? = some u) :
    (Instr.index t (.agg cs) (.int k (i : Int))).run P W = .ok u W := by
  have hn : (0 : Int) ≤ (i : Int) ∧ (i : Int) < (n : Int) := by omega
  cases hx : P.info? e with
  | none => rw [hx] at hs; cases hs
  | some x =>
    rw [hx] at hs
    have hs : x.size = 1 := by simpa using hs
    cases d <;> first | (simp at hd; done) | simp [Instr.index, run_underlying h, run_underlying he, asIntOf, part, isAgg, sizeOf, typeInfo, hn, hx, hs, hu] <;> (intro hh; omega)
theorem top_big {n : Nat} (h : n < topN) (m : Nat) (hm : 16384 ≤ m) : ((n : Nat) : Int).natAbs < 2 ^ m := by
  rw [Int.natAbs_natCast]
  refine Nat.lt_of_lt_of_le h ?_
  obtain ⟨K, hK⟩ : ∃ K, 32 * 512 = K := ⟨_, rfl⟩
  rw [show topN = powN 512 from rfl, powN_two' 512 K hK]
  exact Nat.pow_le_pow_right (by omega) (by omega)
theorem wmul_n (v v' : Value) (x y z : Nat) (hz : x * y = z) (w : World) (hx : WI w v (x : Int)) (hy : WI w v' (y : Int)) (bx : x < topN) (bY : y < topN) (bz : z < topN) :
    Calls Try.prog 37 #[v, v'] w fun e w' => ∃ s A n c, e = .returned (.tuple #[.agg #[.bool s, .slice A n c], .int .i64 0]) ∧ Hid (WI w' (.agg #[.bool s, .slice A n c]) (z : Int) ∧ New w w') := by
  have h := wmul_any v v' x y w hx hy (top_big bx 1000000 (by decide)) (top_big bY 1000000 (by decide))
  rw [← Int.natCast_mul, hz] at h
  have := rg_in (z := (z : Int)) (by rw [Int.natAbs_natCast]; exact bz)
  rwa [this.1, this.2] at h
theorem wadd_n (v v' : Value) (x y z : Nat) (hz : x + y = z) (w : World) (hx : WI w v (x : Int)) (hy : WI w v' (y : Int)) (bz : z < topN) :
    Calls Try.prog 35 #[v, v'] w fun e w' => ∃ s A n c, e = .returned (.tuple #[.agg #[.bool s, .slice A n c], .int .i64 0]) ∧ Hid (WI w' (.agg #[.bool s, .slice A n c]) (z : Int) ∧ New w w') := by
  have h := wadd_any v v' x y w hx hy (top_big (show x < topN by omega) 1000000 (by decide)) (top_big (show y < topN by omega) 1000000 (by decide))
  rw [← Int.natCast_add, hz] at h
  have := rg_in (z := (z : Int)) (by rw [Int.natAbs_natCast]; exact bz)
  rwa [this.1, this.2] at h

/-- The number after j halves. -/
def lfN (X h l j : Nat) : Nat := if j = 0 then X else if j = 1 then X * 4294967296 + h else (X * 4294967296 + h) * 4294967296 + l
theorem lfN_0 (X h l : Nat) : lfN X h l 0 = X := rfl
theorem lfN_1 (X h l : Nat) : lfN X h l 1 = X * 4294967296 + h := by unfold lfN; rw [if_neg (by omega), if_pos rfl]
theorem lfN_2 (X h l : Nat) : lfN X h l 2 = (X * 4294967296 + h) * 4294967296 + l := by unfold lfN; rw [if_neg (by omega), if_neg (by omega)]
theorem lfN_le {X h l j : Nat} (hj : j ≤ 2) : lfN X h l j ≤ lfN X h l 2 := by
  rcases (by omega : j = 0 ∨ j = 1 ∨ j = 2) with rfl | rfl | rfl
  · rw [lfN_0, lfN_2]; omega
  · rw [lfN_1, lfN_2]; omega
  · exact Nat.le_refl _

theorem lf_fin {X d h l Z : Nat} (hZ : X * 18446744073709551616 + d = Z) (hh : d / 4294967296 = h) (hl : d % 4294967296 = l) : lfN X h l 2 = Z := by
  have h1 : d = 4294967296 * h + l := by rw [← hh, ← hl]; exact (Nat.div_add_mod d 4294967296).symm
  rw [lfN_2, ← hZ, h1, Nat.add_mul, Nat.mul_assoc, Nat.mul_comm h, Nat.add_assoc]

set_option maxRecDepth 100000 in
set_option maxHeartbeats 4000000 in
theorem lift_any (v : Value) (X d Z : Nat) (hZ : X * 18446744073709551616 + d = Z) (hb : Z < topN) (hd : d < 18446744073709551616) (w : World) (hv : WI w v (X : Int)) :
    Calls Try.prog 23 #[v, .int .u64 d] w fun e w' => ∃ s A n c, e = .returned (.agg #[.bool s, .slice A n c]) ∧ Hid (WI w' (.agg #[.bool s, .slice A n c]) (Z : Int) ∧ New w w') := by
  obtain ⟨s0, A0, n0, c0, rfl, hs0, hm0⟩ := hv
  obtain ⟨h, hh⟩ : ∃ h, d / 4294967296 = h := ⟨_, rfl⟩
  obtain ⟨l, hl⟩ : ∃ l, d % 4294967296 = l := ⟨_, rfl⟩
  have hhi : (d : Int) / 4294967296 = (h : Int) := by omega
  have hli : (d : Int) % 4294967296 = (l : Int) := by omega
  have hhb : h < 4294967296 := by omega
  have hlb : l < 4294967296 := by omega
  have hf : lfN X h l 2 = Z := lf_fin hZ hh hl
  have hand : bits .and .u64 (d : Int) 4294967295 = (l : Int) := by
    rw [show (4294967295 : Int) = ((4294967295 : Nat) : Int) by rfl, u64_and_nat _ _ (by omega) (by omega), show 4294967295 = 2 ^ 32 - 1 by rfl, Nat.and_two_pow_sub_one_eq_mod, ← hl]
  have hx0 : ∀ W, (Instr.index 77 (.agg #[.int .u64 (h : Int), .int .u64 (l : Int)]) (.int .i64 0)).run Try.prog W = .ok (.int .u64 (h : Int)) W := fun W => run_idx_arr .i64 (i := 0) W Try.underlying77 Try.underlying22 rfl (by kernel_rfl) (by decide) rfl
  have hx1 : ∀ W, (Instr.index 77 (.agg #[.int .u64 (h : Int), .int .u64 (l : Int)]) (.int .i64 1)).run Try.prog W = .ok (.int .u64 (l : Int)) W := fun W => run_idx_arr .i64 (i := 1) W Try.underlying77 Try.underlying22 rfl (by kernel_rfl) (by decide) rfl
  have H0 := Lib.hid (And.intro hs0 (And.intro hm0 (And.intro hf hb)))
  clear hs0 hm0 hf hb hZ hh hl hli
  go_enter Try.func23, Try.ntmps23
  go_wp2_with fail
  refine Code.new2 ?_
  intro W1 hb1 hb2 hn1 hz1
  obtain ⟨g1, hg1⟩ : ∃ x, w.heap.size = x := ⟨_, rfl⟩
  obtain ⟨g2, hg2⟩ : ∃ x, w.heap.size + 1 = x := ⟨_, rfl⟩
  rw [hg1] at hb1
  rw [hg2] at hb2
  simp only [hg2]
  simp only [hg1]
  have hgs : w.heap.size ≤ g1 ∧ g1 < g2 := by omega
  have H1 := Lib.hid (And.intro hb1 (And.intro hb2 (And.intro hn1 hgs)))
  clear hb1 hb2 hn1 hz1 hg1 hg2 hgs hand hhi
  go_loopw [12] (fun i wr => ∃ j : Nat, ∃ s A n c, i = .int .i64 (j : Int) ∧ j ≤ 2 ∧ Hid (Blk wr g1 37 #[.bool s, .slice A n c] ∧ Blk wr g2 37 #[.bool false, .slice none 0 0] ∧ WI wr (.agg #[.bool s, .slice A n c]) ((lfN X h l j : Nat) : Int) ∧ New w wr)) (fun i _ => 2 - (intOf i).toNat)
  case atStart =>
    exact ⟨0, s0, A0, n0, c0, rfl, by omega, H1.out.1, H1.out.2.1, WI.new ⟨s0, A0, n0, c0, rfl, H0.out.1, H0.out.2.1⟩ H1.out.2.2.1, H1.out.2.2.1⟩
  case round =>
    have HG := Lib.hid H1.out.2.2.2
    clear H1
    obtain ⟨j, s, A, n, c, rfl, hj, HI⟩ := hrel
    obtain ⟨wo, rfl⟩ : ∃ wo : World, wo = wr := ⟨_, rfl⟩
    have hc10 := HI.out.1.cell 0 (u := .bool s) rfl
    have hc11 := HI.out.1.cell 1 (u := .slice A n c) rfl
    have hf10 := HI.out.1.frozen 0
    have hf11 := HI.out.1.frozen 1
    by_cases hlt : j < 2
    · obtain ⟨x, hxb, hix, hst⟩ : ∃ x : Nat, x < 4294967296 ∧ (∀ W, (Instr.index 77 (.agg #[.int .u64 (h : Int), .int .u64 (l : Int)]) (.int .i64 (j : Int))).run Try.prog W = .ok (.int .u64 (x : Int)) W) ∧ lfN X h l j * 4294967296 + x = lfN X h l (j + 1) := by
        rcases (by omega : j = 0 ∨ j = 1) with rfl | rfl
        · exact ⟨h, hhb, hx0, by rw [lfN_0, lfN_1]⟩
        · exact ⟨l, hlb, hx1, by rw [lfN_1, lfN_2]⟩
      have hle : lfN X h l (j + 1) ≤ Z := by rw [← H0.out.2.2.1]; exact lfN_le (by omega)
      obtain ⟨p, hp⟩ : ∃ p, lfN X h l j * 4294967296 = p := ⟨_, rfl⟩
      have hZt := H0.out.2.2.2
      have HS := Lib.hid (And.intro hp (And.intro (show p + x = lfN X h l (j + 1) by rw [← hp]; exact hst) (And.intro (show lfN X h l j < topN by omega) (And.intro (show p < topN by omega) (show lfN X h l (j + 1) < topN by omega)))))
      have gw : IntKind.i64.wrap (x : Int) = (x : Int) := IntWalk.i64_in _ (by omega)
      have HN0 : Hid (New wo wo.drew) := (Chg.refl _ wo).drew
      have htop : 4294967296 < topN := by exact Nat.lt_of_lt_of_le (show 4294967296 < powN 2 by decide) (powN_le (b := 512) (by omega))
      have HT := Lib.hid htop
      have HX := Lib.hid (And.intro hx0 hx1)
      clear hx0 hx1 hst hle hp hZt htop
      go_wp2_with fail
      go_region_with (first
        | (go_at_call 13; (with_reducible refine (from_b 4294967296 _ (by omega) (by omega)).mono ?_); rintro e w5 ⟨s5, A5, n5, c5, rfl, H5⟩; have HN5 : Hid (New wo w5) := HN0.out.new H5.out.2; have hd10 := HN5.out.cell hc10 (fun h => h); have hd11 := HN5.out.cell hc11 (fun h => h))
        | (go_at_call 37; (with_reducible refine (wmul_n _ _ _ 4294967296 p HS.out.1 _ (HI.out.2.2.1.new HN5.out) H5.out.1 HS.out.2.2.1 HT.out HS.out.2.2.2.1).mono ?_); rintro e w6 ⟨s6, A6, n6, c6, rfl, H6⟩; have HN6 : Hid (New wo w6) := HN5.out.new H6.out.2; have he10 := HN6.out.cell hc10 (fun h => h); have he11 := HN6.out.cell hc11 (fun h => h); have hf10 := (HI.out.1.chg HN6.out (fun h => h)).frozen 0; have hf11 := (HI.out.1.chg HN6.out (fun h => h)).frozen 1))
      all_goals
        clear hc10 hc11 hd10 hd11 he10 he11 hf10 hf11
        have hb6 := HI.out.1.chg HN6.out (fun h => h)
        have hch := Chg.at2 w6 g1 (.bool s6) (.slice A6 n6 c6)
        have hg2 : Blk w6 g2 37 #[.bool false, .slice none 0 0] := HI.out.2.1.chg HN6.out (fun h => h)
        have H7 : Hid (Blk ((w6.setCell ⟨g1, 0, none⟩ (.bool s6)).setCell ⟨g1, 1, none⟩ (.slice A6 n6 c6)) g1 37 #[.bool s6, .slice A6 n6 c6] ∧ Blk ((w6.setCell ⟨g1, 0, none⟩ (.bool s6)).setCell ⟨g1, 1, none⟩ (.slice A6 n6 c6)) g2 37 #[.bool false, .slice none 0 0] ∧ WI ((w6.setCell ⟨g1, 0, none⟩ (.bool s6)).setCell ⟨g1, 1, none⟩ (.slice A6 n6 c6)) (.agg #[.bool s6, .slice A6 n6 c6]) (p : Int) ∧ New w ((w6.setCell ⟨g1, 0, none⟩ (.bool s6)).setCell ⟨g1, 1, none⟩ (.slice A6 n6 c6))) :=
          ⟨hb6.set2 _ _, hg2.chg hch (by have := HG.out; omega), H6.out.1.store hb6 (noInt_two _ _ _ _) hch, Chg.owned (HI.out.2.2.2.new HN6.out) hch (fun k e => by have := HG.out; omega)⟩
        generalize (w6.setCell ⟨g1, 0, none⟩ (.bool s6)).setCell ⟨g1, 1, none⟩ (.slice A6 n6 c6) = w7 at H7 ⊢
        clear hb6 hch hg2 H5 H6 HN5 HN6 HI HN0
        have hc10 := H7.out.1.cell 0 (u := .bool s6) rfl
        have hc11 := H7.out.1.cell 1 (u := .slice A6 n6 c6) rfl
        have HN0 : Hid (New w7 w7.drew) := (Chg.refl _ w7).drew
        go_wp2_with fail
        go_region_with (first
          | (go_at_call 13; (with_reducible refine (from_b (x : Int) _ (by omega) (by omega)).mono ?_); rintro e w8 ⟨s8, A8, n8, c8, rfl, H8⟩; have HN8 : Hid (New w7 w8) := HN0.out.new H8.out.2; have hd10 := HN8.out.cell hc10 (fun h => h); have hd11 := HN8.out.cell hc11 (fun h => h))
          | (go_at_call 35; (with_reducible refine (wadd_n _ _ p x _ HS.out.2.1 _ (H7.out.2.2.1.new HN8.out) H8.out.1 HS.out.2.2.2.2).mono ?_); rintro e w9 ⟨s9, A9, n9, c9, rfl, H9⟩; have HN9 : Hid (New w7 w9) := HN8.out.new H9.out.2; have he10 := HN9.out.cell hc10 (fun h => h); have he11 := HN9.out.cell hc11 (fun h => h); have hf10 := (H7.out.1.chg HN9.out (fun h => h)).frozen 0; have hf11 := (H7.out.1.chg HN9.out (fun h => h)).frozen 1))
        all_goals
          clear hc10 hc11 hd10 hd11 he10 he11 hf10 hf11
          go_wp2
          go_roundw
          case rel =>
            have hb9 := H7.out.1.chg HN9.out (fun h => h)
            have hch := Chg.at2 w9 g1 (.bool s9) (.slice A9 n9 c9)
            exact ⟨j + 1, s9, A9, n9, c9, by go_num, by omega, hb9.set2 _ _, (H7.out.2.1.chg HN9.out (fun h => h)).chg hch (by have := HG.out; omega), H9.out.1.store hb9 (noInt_two _ _ _ _) hch, Chg.owned (H7.out.2.2.2.new HN9.out) hch (fun k e => by have := HG.out; omega)⟩
          case measure => simp [intOf]; omega
    · obtain rfl : j = 2 := by omega
      have hb2 := HI.out.2.1
      have x0 := hb2.cell 0 (u := .bool false) rfl
      have x1 := hb2.cell 1 (u := .slice none 0 0) rfl
      have f0 := hb2.frozen 0
      have f1 := hb2.frozen 1
      have HF := Lib.hid (And.intro hx0 hx1)
      clear hb2 hx0 hx1 hf10 hf11
      go_wp2
      obtain ⟨i1, i2, i3, i4⟩ := HI.out
      rw [H0.out.2.2.1] at i3
      refine bodyPost_ret (res_c rfl _ rfl (aggInt.load (i2.set2 _ _))) rfl ⟨s, A, n, c, rfl, i3.store i2 (noInt_two _ _ _ _) (Chg.at2 _ _ _ _), ?_⟩
      exact Chg.owned i4 (Chg.at2 _ _ _ _) (fun k e => by have := HG.out; omega)
end Go.Proofs.Ytgofjkppeobjfaa

namespace Go.Proofs.Ytgofjkppeobjfaa
set_option linter.unusedVariables false
open Go.RowKit Go.Mem Go.Dig Go.Pure

def p64 (k : Nat) : Nat := 18446744073709551616 ^ k
theorem p64_zero : p64 0 = 1 := rfl
theorem p64_succ (k : Nat) : p64 (k + 1) = p64 k * 18446744073709551616 := Nat.pow_succ _ _
theorem p64_two (k : Nat) : p64 k = 2 ^ (64 * k) := by
  unfold p64
  rw [Nat.pow_mul]
theorem p64_pos (k : Nat) : 1 ≤ p64 k := Nat.pow_pos (by omega)
theorem p64_le {a b : Nat} (h : a ≤ b) : p64 a ≤ p64 b := Nat.pow_le_pow_right (by omega) h
theorem p64_lt {a b : Nat} (h : a < b) : p64 a < p64 b := Nat.pow_lt_pow_right (by omega) h
theorem top_p64 (k : Nat) (hk : k = 256) : topN = p64 k := by
  subst hk
  rw [p64_two, show topN = powN 512 from rfl, powN_two' 512 (64 * 256) (by decide)]
theorem p64_top {k : Nat} (h : k ≤ 255) : p64 k < topN := by
  obtain ⟨K, hK⟩ : ∃ K, K = 256 := ⟨_, rfl⟩
  rw [top_p64 K hK]
  exact p64_lt (by omega)
theorem cmp_le {a b : Nat} : decide (cmpI (a : Int) (b : Int) ≤ 0) = decide (a ≤ b) := by
  unfold cmpI
  split
  · have : a ≤ b := by omega
    simp [this]
  · split
    · have : ¬ a ≤ b := by omega
      simp [this]
    · have : a ≤ b := by omega
      simp [this]

set_option maxRecDepth 100000 in
set_option maxHeartbeats 2000000 in
theorem parts_ok (v : Value) (N k : Nat) (hk : k ≤ 255) (hN : N ≤ p64 k) (hl : ∀ j, j < k → p64 j < N) (w : World) (hv : WI w v (N : Int)) :
    Calls Try.prog 20 #[v] w fun e w' => ∃ s A n c, e = .returned (.tuple #[.int .i64 k, .agg #[.bool s, .slice A n c], .bool true]) ∧ Hid (WI w' (.agg #[.bool s, .slice A n c]) ((p64 k : Nat) : Int) ∧ New w w') := by
  obtain ⟨s0, A0, n0, c0, rfl, hs, hm⟩ := hv
  have H := Lib.hid (And.intro hs (And.intro hm (And.intro hN hl)))
  clear hs hm hN hl
  go_enter Try.func20, Try.ntmps20
  go_wp2_with fail
  refine Calls.new2 ?_
  intro W hb1 hb2 hn hz
  obtain ⟨g1, hg1⟩ : ∃ x, w.heap.size = x := ⟨_, rfl⟩
  obtain ⟨g2, hg2⟩ : ∃ x, w.heap.size + 1 = x := ⟨_, rfl⟩
  rw [hg1] at hb1
  rw [hg2] at hb2
  simp only [hg2]
  simp only [hg1]
  refine (from_b 1 W (by omega) (by omega)).mono ?_
  rintro e w1 ⟨s1, A1, n1, c1, rfl, H1⟩
  have hz1 : W.heap.size ≤ w1.heap.size := H1.out.2.size
  go_wp2_with fail
  refine Code.new1 ?_
  intro W2 hb5 hn5 hz5
  obtain ⟨g5, hg5⟩ : ∃ x, w1.heap.size = x := ⟨_, rfl⟩
  rw [hg5] at hb5
  simp only [hg5]
  have hgs : w.heap.size ≤ g1 ∧ g1 < g2 ∧ g2 < g5 := by omega
  have HG := Lib.hid hgs
  have HB := Lib.hid (And.intro (hb1.chg (H1.out.2.new hn5) (fun h => h)) (And.intro (hb2.chg (H1.out.2.new hn5) (fun h => h)) (And.intro hb5 (And.intro (H1.out.1.new hn5) (hn.new (H1.out.2.new hn5))))))
  clear hb1 hb2 hn hz hg1 hg2 hz1 hb5 hn5 hz5 hg5 hgs H1
  go_loopw [6] (fun i wr => ∃ j : Nat, ∃ s A n c, i = .int .i64 (j : Int) ∧ j ≤ k ∧ Hid (Blk wr g1 37 #[.bool s0, .slice A0 n0 c0] ∧ Blk wr g2 37 #[.bool false, .slice none 0 0] ∧ Blk wr g5 37 #[.bool s, .slice A n c] ∧ WI wr (.agg #[.bool s, .slice A n c]) ((p64 j : Nat) : Int) ∧ New w wr)) (fun i _ => 300 - (intOf i).toNat)
  case atStart => exact ⟨0, s1, A1, n1, c1, rfl, by omega, HB.out⟩
  case round =>
    clear HB
    obtain ⟨j, s, A, n, c, rfl, hj, HI⟩ := hrel
    have hle : (j : Int) ≤ 255 := by omega
    have hc10 := HI.out.1.cell 0 (u := .bool s0) rfl
    have hc11 := HI.out.1.cell 1 (u := .slice A0 n0 c0) rfl
    have hc50 := HI.out.2.2.1.cell 0 (u := .bool s) rfl
    have hc51 := HI.out.2.2.1.cell 1 (u := .slice A n c) rfl
    go_wp2_with fail
    refine (compare_any _ _ (N : Int) ((p64 j : Nat) : Int) wr (WI.new ⟨s0, A0, n0, c0, rfl, H.out.1, H.out.2.1⟩ HI.out.2.2.2.2) HI.out.2.2.2.1).mono ?_
    rintro e w3 ⟨rfl, hn3⟩
    clear hc10 hc11 hc50 hc51
    have hcm := cmp_le (a := N) (b := p64 j)
    generalize cmpI (N : Int) ((p64 j : Nat) : Int) = C at hcm ⊢
    have HJ := Lib.hid (And.intro (HI.out.2.1.chg hn3 (fun h => h)) (And.intro (HI.out.2.2.1.chg hn3 (fun h => h)) (And.intro (HI.out.2.2.2.1.new hn3) (And.intro (HI.out.1.chg hn3 (fun h => h)) (HI.out.2.2.2.2.new hn3)))))
    clear hn3 HI
    have k50 := HJ.out.2.1.cell 0 (u := .bool s) rfl
    have k51 := HJ.out.2.1.cell 1 (u := .slice A n c) rfl
    by_cases hjk : j = k
    · subst hjk
      have hC : C ≤ 0 := by
        have := H.out.2.2.1
        simpa [this] using hcm
      have k20 := HJ.out.1.cell 0 (u := .bool false) rfl
      have k21 := HJ.out.1.cell 1 (u := .slice none 0 0) rfl
      have f20 := HJ.out.1.frozen 0
      have f21 := HJ.out.1.frozen 1
      clear hcm
      go_wp2_with fail
      go_region
      all_goals
        go_wp2
        obtain ⟨i2, i5, i3, i1, i4⟩ := HJ.out
        refine bodyPost_ret (res_tct rfl _ rfl rfl (aggInt.load (Blk.drew (i2.set2 _ _))) rfl) rfl ⟨s, A, n, c, rfl, i3.store i2 (noInt_two _ _ _ _) (Chg.at2 _ _ _ _).drew, ?_⟩
        exact Chg.owned i4 (Chg.at2 _ _ _ _).drew (fun k e => by have := HG.out; omega)
    · have hC : decide (C ≤ 0) = false := by
        rw [hcm]
        have := H.out.2.2.2 j (by omega)
        simp; omega
      have hlt : (j : Int) < 255 := by omega
      clear hcm
      go_wp2_with fail
      refine (lift_any _ (p64 j) 0 (p64 (j + 1)) (by rw [p64_succ, Nat.add_zero]) (p64_top (by omega)) (by decide) _ HJ.out.2.2.1).mono ?_
      rintro e w4 ⟨s4, A4, n4, c4, rfl, H4⟩
      have hb5 := HJ.out.2.1.chg H4.out.2 (fun h => h)
      have x0 := hb5.cell 0 (u := .bool s) rfl
      have x1 := hb5.cell 1 (u := .slice A n c) rfl
      have f0 := hb5.frozen 0
      have f1 := hb5.frozen 1
      have HB5 := Lib.hid hb5
      clear k50 k51 hb5
      go_wp2
      go_roundw
      case rel =>
        have hch := Chg.at2 w4 g5 (.bool s4) (.slice A4 n4 c4)
        exact ⟨j + 1, s4, A4, n4, c4, by go_num, by omega, (HJ.out.2.2.2.1.chg H4.out.2 (fun h => h)).chg hch (by have := HG.out; omega), (HJ.out.1.chg H4.out.2 (fun h => h)).chg hch (by have := HG.out; omega), HB5.out.set2 _ _, H4.out.1.store HB5.out (noInt_two _ _ _ _) hch, Chg.owned (HJ.out.2.2.2.2.new H4.out.2) hch (fun k e => by have := HG.out; omega)⟩
      case measure => simp [intOf]; omega
set_option maxRecDepth 100000 in
set_option maxHeartbeats 2000000 in
theorem parts_no (v : Value) (N : Nat) (hN : p64 255 < N) (w : World) (hv : WI w v (N : Int)) :
    Calls Try.prog 20 #[v] w fun e w' => e = .returned (.tuple #[.int .i64 0, .agg #[.bool false, .slice none 0 0], .bool false]) ∧ New w w' := by
  obtain ⟨s0, A0, n0, c0, rfl, hs, hm⟩ := hv
  have H := Lib.hid (And.intro hs (And.intro hm hN))
  clear hs hm hN
  go_enter Try.func20, Try.ntmps20
  go_wp2_with fail
  refine Calls.new2 ?_
  intro W hb1 hb2 hn hz
  obtain ⟨g1, hg1⟩ : ∃ x, w.heap.size = x := ⟨_, rfl⟩
  obtain ⟨g2, hg2⟩ : ∃ x, w.heap.size + 1 = x := ⟨_, rfl⟩
  rw [hg1] at hb1
  rw [hg2] at hb2
  simp only [hg2]
  simp only [hg1]
  refine (from_b 1 W (by omega) (by omega)).mono ?_
  rintro e w1 ⟨s1, A1, n1, c1, rfl, H1⟩
  have hz1 : W.heap.size ≤ w1.heap.size := H1.out.2.size
  go_wp2_with fail
  refine Code.new1 ?_
  intro W2 hb5 hn5 hz5
  obtain ⟨g5, hg5⟩ : ∃ x, w1.heap.size = x := ⟨_, rfl⟩
  rw [hg5] at hb5
  simp only [hg5]
  have hgs : w.heap.size ≤ g1 ∧ g1 < g2 ∧ g2 < g5 := by omega
  have HG := Lib.hid hgs
  have HB := Lib.hid (And.intro (hb1.chg (H1.out.2.new hn5) (fun h => h)) (And.intro (hb2.chg (H1.out.2.new hn5) (fun h => h)) (And.intro hb5 (And.intro (H1.out.1.new hn5) (hn.new (H1.out.2.new hn5))))))
  clear hb1 hb2 hn hz hg1 hg2 hz1 hb5 hn5 hz5 hg5 hgs H1
  go_loopw [6] (fun i wr => ∃ j : Nat, ∃ s A n c, i = .int .i64 (j : Int) ∧ j ≤ 256 ∧ Hid (Blk wr g1 37 #[.bool s0, .slice A0 n0 c0] ∧ Blk wr g2 37 #[.bool false, .slice none 0 0] ∧ Blk wr g5 37 #[.bool s, .slice A n c] ∧ WI wr (.agg #[.bool s, .slice A n c]) ((p64 (min j 255) : Nat) : Int) ∧ New w wr)) (fun i _ => 300 - (intOf i).toNat)
  case atStart => exact ⟨0, s1, A1, n1, c1, rfl, by omega, HB.out⟩
  case round =>
    clear HB
    obtain ⟨j, s, A, n, c, rfl, hj, HI⟩ := hrel
    by_cases hle : (j : Int) ≤ 255
    · obtain ⟨j', hj'⟩ : ∃ j', min j 255 = j' := ⟨_, rfl⟩
      rw [hj'] at HI
      have hjj : j' = j := by omega
      have hc10 := HI.out.1.cell 0 (u := .bool s0) rfl
      have hc11 := HI.out.1.cell 1 (u := .slice A0 n0 c0) rfl
      have hc50 := HI.out.2.2.1.cell 0 (u := .bool s) rfl
      have hc51 := HI.out.2.2.1.cell 1 (u := .slice A n c) rfl
      go_wp2_with fail
      refine (compare_any _ _ (N : Int) ((p64 j' : Nat) : Int) wr (WI.new ⟨s0, A0, n0, c0, rfl, H.out.1, H.out.2.1⟩ HI.out.2.2.2.2) HI.out.2.2.2.1).mono ?_
      rintro e w3 ⟨rfl, hn3⟩
      clear hc10 hc11 hc50 hc51
      have hcm := cmp_le (a := N) (b := p64 j')
      generalize cmpI (N : Int) ((p64 j' : Nat) : Int) = C at hcm ⊢
      have HJ := Lib.hid (And.intro (HI.out.2.1.chg hn3 (fun h => h)) (And.intro (HI.out.2.2.1.chg hn3 (fun h => h)) (And.intro (HI.out.2.2.2.1.new hn3) (And.intro (HI.out.1.chg hn3 (fun h => h)) (HI.out.2.2.2.2.new hn3)))))
      clear hn3 HI
      have k50 := HJ.out.2.1.cell 0 (u := .bool s) rfl
      have k51 := HJ.out.2.1.cell 1 (u := .slice A n c) rfl
      have hC : decide (C ≤ 0) = false := by
        rw [hcm]
        have := Nat.lt_of_le_of_lt (p64_le (show j' ≤ 255 by omega)) H.out.2.2
        simp; omega
      clear hcm
      by_cases h255 : (j : Int) < 255
      · go_wp2_with fail
        refine (lift_any _ (p64 j') 0 (p64 (j' + 1)) (by rw [p64_succ, Nat.add_zero]) (p64_top (by omega)) (by decide) _ HJ.out.2.2.1).mono ?_
        rintro e w4 ⟨s4, A4, n4, c4, rfl, H4⟩
        have hb5 := HJ.out.2.1.chg H4.out.2 (fun h => h)
        have x0 := hb5.cell 0 (u := .bool s) rfl
        have x1 := hb5.cell 1 (u := .slice A n c) rfl
        have f0 := hb5.frozen 0
        have f1 := hb5.frozen 1
        have HB5 := Lib.hid hb5
        clear k50 k51 hb5
        go_wp2
        go_roundw
        case rel =>
          have hch := Chg.at2 w4 g5 (.bool s4) (.slice A4 n4 c4)
          exact ⟨j + 1, s4, A4, n4, c4, by go_num, by omega, (HJ.out.2.2.2.1.chg H4.out.2 (fun h => h)).chg hch (by have := HG.out; omega), (HJ.out.1.chg H4.out.2 (fun h => h)).chg hch (by have := HG.out; omega), HB5.out.set2 _ _, (by rw [show min (j + 1) 255 = j' + 1 by omega]; exact H4.out.1.store HB5.out (noInt_two _ _ _ _) hch), Chg.owned (HJ.out.2.2.2.2.new H4.out.2) hch (fun k e => by have := HG.out; omega)⟩
        case measure => simp [intOf]; omega
      · have h255' : decide ((j : Int) < 255) = false := by simp; omega
        go_wp2
        go_roundw
        case rel => exact ⟨j + 1, s, A, n, c, by go_num, by omega, HJ.out.2.2.2.1, HJ.out.1, HJ.out.2.1, (by rw [show min (j + 1) 255 = j' by omega]; exact HJ.out.2.2.1), HJ.out.2.2.2.2⟩
        case measure => simp [intOf]; omega
    · have hle' : decide ((j : Int) ≤ 255) = false := by simp; omega
      have k20 := HI.out.2.1.cell 0 (u := .bool false) rfl
      have k21 := HI.out.2.1.cell 1 (u := .slice none 0 0) rfl
      have f20 := HI.out.2.1.frozen 0
      have f21 := HI.out.2.1.frozen 1
      go_wp2
      obtain ⟨i1, i2, i5, i3, i4⟩ := HI.out
      refine bodyPost_ret (res_tct rfl _ rfl rfl (aggInt.load (i2.set2 _ _)) rfl) rfl ⟨rfl, ?_⟩
      exact Chg.owned i4 (Chg.at2 _ _ _ _) (fun k e => by have := HG.out; omega)

end Go.Proofs.Ytgofjkppeobjfaa

namespace Go.Proofs.Ytgofjkppeobjfaa
set_option linter.unusedVariables false
open Go.RowKit Go.Mem Go.Dig

theorem noInt_two' (s : Bool) (A : Option Addr) (n c : Nat) : NoInt (#[Value.bool s, Value.slice A n c] : Array Value).toList := fun k z h => by simp at h
theorem aggN : Agg Try.prog 64 2 := ⟨_, Try.underlying64, rfl, by kernel_rfl⟩
/-- The amount m lies in a slice, in base 10000. -/
def DM (w : World) (A : Option Addr) (n c : Nat) (m : Nat) : Prop := ∃ l, Rd w A n (nv .i64 l) ∧ n ≤ c ∧ c ≤ 9223372036854775807 ∧ Num 10000 l m
theorem DM.new {w w' : World} {A : Option Addr} {n c m : Nat} (h : DM w A n c m) (hn : New w w') : DM w' A n c m := by
  obtain ⟨l, h1, h2⟩ := h
  exact ⟨l, h1.new hn, h2⟩
theorem DM.store {w w' : World} {A : Option Addr} {n c m g : Nat} {t : TypeId} {cs : Array Value} (h : DM w A n c m) (hb : Blk w g t cs) (hi : NoInt cs.toList) (hc : Chg (fun k => k = g) w w') : DM w' A n c m := by
  obtain ⟨l, h1, h2⟩ := h
  refine ⟨l, h1.store hb (fun u hu => ?_) hc, h2⟩
  obtain ⟨z, _, rfl⟩ := List.mem_map.1 hu
  exact hi _ _
theorem DM.zero (w : World) : DM w none 0 0 0 := ⟨[], Rd.nil _ _, Nat.le_refl _, by omega, Num.zero _⟩
theorem DM.pos {w : World} {A : Option Addr} {n c m : Nat} (h : DM w A n c m) : n = 0 ↔ m = 0 := by
  obtain ⟨l, h1, _, _, h4⟩ := h
  rw [← h4.nil_iff (by omega)]
  have := h1.len
  rw [nv_length] at this
  constructor
  · intro h; exact List.eq_nil_of_length_eq_zero (by omega)
  · intro h; subst h; simpa using this.symm
theorem DM.lt {w : World} {A : Option Addr} {n c m : Nat} (h : DM w A n c m) {k : Nat} (hk : n ≤ k) : m < 10000 ^ k := by
  obtain ⟨l, h1, _, _, h4⟩ := h
  exact h4.lt (by omega) (by have := h1.len; rw [nv_length] at this; omega)
theorem DM.len {w : World} {A : Option Addr} {n c m : Nat} (h : DM w A n c m) {k : Nat} (hk : m < 10000 ^ k) : n ≤ k := by
  obtain ⟨l, h1, _, _, h4⟩ := h
  have := h4.len_le (by omega) hk
  have := h1.len
  rw [nv_length] at this
  omega
/-- v is the refuterref03.N z. -/
def RN (w : World) (v : Value) (z : Int) : Prop := ∃ s A n c, v = .agg #[.bool s, .slice A n c] ∧ s = decide (z < 0) ∧ DM w A n c z.natAbs
theorem RN.new {w w' : World} {v : Value} {z : Int} (h : RN w v z) (hn : New w w') : RN w' v z := by
  obtain ⟨s, A, n, c, h1, h2, h3⟩ := h
  exact ⟨s, A, n, c, h1, h2, h3.new hn⟩
theorem RN.store {w w' : World} {v : Value} {z : Int} {g : Nat} {t : TypeId} {cs : Array Value} (h : RN w v z) (hb : Blk w g t cs) (hi : NoInt cs.toList) (hc : Chg (fun k => k = g) w w') : RN w' v z := by
  obtain ⟨s, A, n, c, h1, h2, h3⟩ := h
  exact ⟨s, A, n, c, h1, h2, h3.store hb hi hc⟩
theorem RN.zero (w : World) : RN w (.agg #[.bool false, .slice none 0 0]) 0 := ⟨_, _, _, _, rfl, rfl, DM.zero w⟩

set_option maxHeartbeats 1000000 in
theorem normal_any (s : Bool) (A : Option Addr) (n c : Nat) (l : List Nat) (w : World) (hr : Rd w A n (nv .i64 l)) (hnc : n ≤ c) (hc : c ≤ 9223372036854775807) :
    Calls Try.prog 45 #[.bool s, .slice A n c] w fun e w' => e = .returned (.agg #[.bool (s && decide (0 < (Dig.trim l).length)), .slice A (Dig.trim l).length c]) ∧ New w w' := by
  have hl : l.length = n := by have := hr.len; rwa [nv_length] at this
  obtain ⟨T, hT⟩ : ∃ T, (Dig.trim l).length = T := ⟨_, rfl⟩
  rw [hT]
  obtain ⟨b, hb⟩ : ∃ b, (s && decide (0 < T)) = b := ⟨_, rfl⟩
  rw [hb]
  have H0 := Lib.hid (And.intro hl (And.intro hr (And.intro hT hb)))
  clear hl hr hT hb
  have hup := fun (k : Nat) (i : Int) (hi : i = (k : Int)) (m : Nat) (hk : k ≤ c) (W : World) => run_upto elemInts .i64 A m c k i hi hk W
  have HUP := Lib.hid hup
  clear hup
  go_enter Try.func45, Try.ntmps45
  go_wp2
  obtain ⟨W, hW⟩ : ∃ W, w.alloc (.cells #[.bool false, .slice none 0 0] 64) = W := ⟨_, rfl⟩
  have HB : Hid (Blk W w.heap.size 64 #[.bool false, .slice none 0 0] ∧ New w W) := by rw [← hW]; exact ⟨Blk.new _ _ _, (Chg.refl _ w).alloc _⟩
  rw [hW]
  clear hW
  go_loopw [1] (fun v wr => ∃ k : Nat, v = .slice A k c ∧ k ≤ n ∧ Hid ((Dig.trim (l.take k)).length = T) ∧ wr = W) (fun v _ => match v with | .slice _ k _ => k | _ => 0)
  case atStart =>
    obtain ⟨hl, hr, hT, hb⟩ := H0.out
    exact ⟨n, rfl, Nat.le_refl _, by show _ = _; rw [List.take_of_length_le (by omega), hT], rfl⟩
  case round =>
    obtain ⟨k, rfl, hk, HK, rfl⟩ := hrel
    have hc0 := HB.out.1.cell 0 (u := .bool false) rfl
    have hc1 := HB.out.1.cell 1 (u := .slice none 0 0) rfl
    have hf0 := HB.out.1.frozen 0
    have hf1 := HB.out.1.frozen 1
    by_cases h0 : k = 0
    · subst h0
      have hTk : T = 0 := by
        have := HK.out
        simp [Dig.trim] at this
        omega
      have hbv : b = false := by
        have hb := H0.out.2.2.2
        rw [← hb, hTk]; simp
      subst hTk
      subst hbv
      cases s
      all_goals
        go_wp2
        refine bodyPost_ret (res_c rfl _ rfl (aggN.load (HB.out.1.set2 _ _))) rfl ⟨rfl, ?_⟩
        exact Chg.owned HB.out.2 (Chg.at2 _ _ _ _) (fun k e => by omega)
    · obtain ⟨j, rfl⟩ : ∃ j, k = j + 1 := ⟨k - 1, by omega⟩
      have hpos : decide ((0 : Int) < ((j + 1 : Nat) : Int)) = true := by simp
      obtain ⟨hl, hr, hT, hb⟩ := H0.out
      have hr2 := hr.new HB.out.2
      obtain ⟨ad, u, rfl, hu, hcu⟩ := hr2.at_ (show j < n by omega)
      obtain ⟨z, hz, rfl⟩ := nv_at hu
      have HZ := Lib.hid hz
      clear hl hr hr2 hT hb hu hz
      by_cases hz0 : z = 0
      · subst hz0
        have hup := HUP.out j ((j + 1 : Nat) - 1 : Int) (by omega) (j + 1) (by omega)
        go_wp2
        go_roundw
        case rel => exact ⟨j, rfl, by omega, by show _ = _; rw [← HK.out, trim_step HZ.out rfl], trivial⟩
        case measure => simp
      · have hzb : ((z : Int) == 0) = false := by simp; omega
        have hTk : T = j + 1 := by
          have := HK.out
          rw [trim_stop HZ.out hz0, List.length_take, Nat.min_eq_left (by have := H0.out.1; omega)] at this
          omega
        have hbv : b = s := by
          have hb := H0.out.2.2.2
          rw [← hb, hTk]; simp
        subst hTk
        subst hbv
        cases b
        all_goals
          go_wp2
          refine bodyPost_ret (res_c rfl _ rfl (aggN.load (HB.out.1.set2 _ _))) rfl ⟨rfl, ?_⟩
          exact Chg.owned HB.out.2 (Chg.at2 _ _ _ _) (fun k e => by omega)

/-- normal: the sign and any digits. -/
theorem normal_rn (s : Bool) (A : Option Addr) (n c : Nat) (l : List Nat) (w : World) (hr : Rd w A n (nv .i64 l)) (hd : Digs 10000 l) (hnc : n ≤ c) (hc : c ≤ 9223372036854775807) :
    Calls Try.prog 45 #[.bool s, .slice A n c] w fun e w' => ∃ v, e = .returned v ∧ RN w' v (sg s (val 10000 l)) ∧ New w w' := by
  refine (normal_any s A n c l w hr hnc hc).mono ?_
  rintro e w' ⟨rfl, hn⟩
  have hN := Num.of_trim hd
  have hll : l.length = n := by have := hr.len; rwa [nv_length] at this
  have hlen := trim_len l
  refine ⟨_, rfl, ⟨_, _, _, _, rfl, ?_, Dig.trim l, ?_, by omega, hc, ?_⟩, hn⟩
  · rw [sg_neg]
    congr 1
    rw [decide_eq_decide]
    have := hN.nil_iff (by omega)
    constructor
    · intro h
      rcases Nat.eq_zero_or_pos (val 10000 l) with h1 | h1
      · rw [this.2 h1] at h; simp at h
      · exact h1
    · intro h
      rcases Nat.eq_zero_or_pos (Dig.trim l).length with h1 | h1
      · have := this.1 (List.eq_nil_of_length_eq_zero h1); omega
      · exact h1
  · have := (hr.new hn).take (k := (Dig.trim l).length) (by omega)
    rw [nv_take, ← trim_take] at this
    exact this
  · rw [sg_abs]; exact hN

/-- Digits of n, one after another. -/
structure OfI (n m i : Nat) (o : List Nat) : Prop where
  len : o.length = i
  digs : Digs 10000 o
  eq : val 10000 o + 10000 ^ i * m = n
theorem OfI.step {n m i : Nat} {o : List Nat} (h : OfI n m i o) : OfI n (m / 10000) (i + 1) (o ++ [m % 10000]) := by
  refine ⟨by simp [h.len], h.digs.snoc (Nat.mod_lt _ (by omega)), ?_⟩
  rw [val_snoc, h.len, Nat.pow_succ, Nat.mul_assoc, Nat.add_assoc, ← Nat.mul_add, Nat.mod_add_div]
  exact h.eq
theorem tmod_neg' (m : Nat) : (-(m : Int)).tmod 10000 = -((m % 10000 : Nat) : Int) := by rw [Int.neg_tmod, Int.tmod_eq_emod_of_nonneg (by omega)]; simp
theorem tdiv_neg' (m : Nat) : (-(m : Int)).tdiv 10000 = -((m / 10000 : Nat) : Int) := by rw [Int.neg_tdiv, Int.tdiv_eq_ediv_of_nonneg (by omega)]; simp

set_option maxHeartbeats 2000000 in
theorem of_any (n : Int) (w : World) (h1 : -9223372036854775808 ≤ n) (h2 : n ≤ 9223372036854775807) :
    Calls Try.prog 27 #[.int .i64 n] w fun e w' => ∃ v, e = .returned v ∧ RN w' v n ∧ New w w' := by
  obtain ⟨M, hM⟩ : ∃ M : Nat, n.natAbs = M := ⟨_, rfl⟩
  have hMb : M ≤ 9223372036854775808 := by omega
  have hM5 : M < 10000 ^ (5 - 0) := Nat.lt_of_le_of_lt hMb (by decide)
  by_cases h : n < 0
  · obtain rfl : n = -(M : Int) := by omega
    have hMp : 0 < M := by omega
    clear hM
    go_enter Try.func27, Try.ntmps27
    go_wp2
    obtain ⟨W, hW⟩ : ∃ W, w.alloc (.cells #[.bool false, .slice none 0 0] 64) = W := ⟨_, rfl⟩
    have HB : Hid (Blk W w.heap.size 64 #[.bool false, .slice none 0 0] ∧ New w W) := by rw [← hW]; exact ⟨Blk.new _ _ _, (Chg.refl _ w).alloc _⟩
    rw [hW]
    clear hW
    go_loopw [0, 3] (fun v d wr => ∃ m i : Nat, ∃ A c o, v = .int .i64 (-(m : Int)) ∧ m ≤ 9223372036854775808 ∧ i ≤ 5 ∧ d = .slice A i c ∧ Hid (m < 10000 ^ (5 - i) ∧ OfI M m i o ∧ wr.ownsRow W.heap.size 3 1 (.slice A i c) i (nv .i64 o) ∧ New W wr)) (fun v _ _ => (-(intOf v)).toNat)
    case atStart => exact ⟨M, 0, none, 0, [], rfl, by omega, by omega, rfl, hM5, ⟨rfl, Digs.nil _, by simp⟩, World.ownsRow_nil _ _ _ _, Chg.refl _ _⟩
    case round =>
      obtain ⟨m, i, A, c, o, rfl, hm, hi, rfl, HO⟩ := hrel
      by_cases hm0 : m = 0
      · subst hm0
        go_wp2_with fail
        obtain ⟨_, hO, ho, hn⟩ := HO.out
        have hcap := own_cap ho
        refine (normal_rn true A i c o wr (Rd.of_own ho) hO.digs hcap.1 hcap.2).mono ?_
        rintro e w2 ⟨v, rfl, ⟨s2, A2, n2, c2, rfl, hs2, hm2⟩, hn2⟩
        have hval : sg true (val 10000 o) = -(M : Int) := by have := hO.eq; unfold sg; simp at this ⊢; omega
        rw [hval] at hs2 hm2
        have hb2 := (HB.out.1.chg hn (fun h => h)).chg hn2 (fun h => h)
        have hc0 := hb2.cell 0 (u := .bool false) rfl
        have hc1 := hb2.cell 1 (u := .slice none 0 0) rfl
        have hf0 := hb2.frozen 0
        have hf1 := hb2.frozen 1
        have H2 := Lib.hid (And.intro hb2 (And.intro (HB.out.2.new (hn.new hn2)) (And.intro hs2 hm2)))
        clear hO ho hn hcap hn2 hs2 hm2 hval hb2 HO
        go_wp2
        obtain ⟨hb2, hn2, hs2, hm2⟩ := H2.out
        refine bodyPost_ret (res_c rfl _ rfl (aggN.load (hb2.set2 _ _))) rfl ⟨_, rfl, ⟨s2, A2, n2, c2, rfl, hs2, hm2.store hb2 (noInt_two' _ _ _ _) (Chg.at2 _ _ _ _)⟩, ?_⟩
        exact Chg.owned hn2 (Chg.at2 _ _ _ _) (fun k e => by omega)
      · have hi5 : i < 5 := by
          rcases Nat.lt_or_ge i 5 with h | h
          · exact h
          · have := HO.out.1
            rw [show 5 - i = 0 by omega] at this
            omega
        have hne : ((-(m : Int)) != 0) = true := by simp; omega
        obtain ⟨d, hd⟩ : ∃ d, m % 10000 = d := ⟨_, rfl⟩
        obtain ⟨q, hq⟩ : ∃ q, m / 10000 = q := ⟨_, rfl⟩
        have hqm : q < m := by omega
        have hdb : d < 10000 := by omega
        have htm : (-(m : Int)).tmod 10000 = -(d : Int) := by rw [tmod_neg', hd]
        have htd : (-(m : Int)).tdiv 10000 = -(q : Int) := by rw [tdiv_neg', hq]
        have HN : Hid (q < 10000 ^ (5 - (i + 1)) ∧ OfI M q (i + 1) (o ++ [d])) := by
          obtain ⟨h1, hO, _⟩ := HO.out
          refine ⟨?_, by rw [← hd, ← hq]; exact hO.step⟩
          rw [← hq, Nat.div_lt_iff_lt_mul (by omega), ← Nat.pow_succ]
          show m < 10000 ^ (5 - (i + 1) + 1)
          rw [show 5 - (i + 1) + 1 = 5 - i by omega]
          exact h1
        clear hd hq
        by_cases hd0 : d = 0
        · replace htm : (-(m : Int)).tmod 10000 = (d : Int) := by rw [htm]; omega
          have hdn : decide ((d : Int) < 0) = false := by simp
          clear hd0
          go_wp2_with (at_builtin; refine wpList_app elemInts rfl _ _ rfl rfl (HO.out.2.2.1.alloc _) rfl (Rd.lit (nv .i64 [d]) rfl) (nv_one _) (by simp only [maxLen]; omega) (by omega) (by have := HO.out.2.2.2.size; simp; omega) ?_; intro A' c' w1 hown hg hat; have HA := Lib.hid (And.intro hown hg); clear hown hg hat)
          go_roundw
          case rel =>
            obtain ⟨hown, hg⟩ := HA.out
            rw [← nv_append] at hown
            refine ⟨q, i + 1, A', c', o ++ [d], rfl, by omega, by omega, rfl, HN.out.1, HN.out.2, hown, ?_⟩
            exact (HO.out.2.2.2.alloc _).grown hg (fun k hk hlt => by have := own_blk_le HO.out.2.2.1 hk; omega)
          case measure => simp [intOf]; omega
        · have hdn : -(d : Int) < 0 := by omega
          go_wp2_with (at_builtin; refine wpList_app elemInts rfl _ _ rfl rfl (HO.out.2.2.1.alloc _) rfl (Rd.lit (nv .i64 [d]) rfl) (nv_one _) (by simp only [maxLen]; omega) (by omega) (by have := HO.out.2.2.2.size; simp; omega) ?_; intro A' c' w1 hown hg hat; have HA := Lib.hid (And.intro hown hg); clear hown hg hat)
          go_roundw
          case rel =>
            obtain ⟨hown, hg⟩ := HA.out
            rw [← nv_append] at hown
            refine ⟨q, i + 1, A', c', o ++ [d], rfl, by omega, by omega, rfl, HN.out.1, HN.out.2, hown, ?_⟩
            exact (HO.out.2.2.2.alloc _).grown hg (fun k hk hlt => by have := own_blk_le HO.out.2.2.1 hk; omega)
          case measure => simp [intOf]; omega
  · obtain rfl : n = (M : Int) := by omega
    have hMb2 : M ≤ 9223372036854775807 := by omega
    have hdec : decide ((M : Int) < 0) = false := by simp
    clear hM
    go_enter Try.func27, Try.ntmps27
    go_wp2
    obtain ⟨W, hW⟩ : ∃ W, w.alloc (.cells #[.bool false, .slice none 0 0] 64) = W := ⟨_, rfl⟩
    have HB : Hid (Blk W w.heap.size 64 #[.bool false, .slice none 0 0] ∧ New w W) := by rw [← hW]; exact ⟨Blk.new _ _ _, (Chg.refl _ w).alloc _⟩
    rw [hW]
    clear hW
    go_loopw [0, 3] (fun v d wr => ∃ m i : Nat, ∃ A c o, v = .int .i64 (m : Int) ∧ m ≤ 9223372036854775807 ∧ i ≤ 5 ∧ d = .slice A i c ∧ Hid (m < 10000 ^ (5 - i) ∧ OfI M m i o ∧ wr.ownsRow W.heap.size 3 1 (.slice A i c) i (nv .i64 o) ∧ New W wr)) (fun v _ _ => (intOf v).toNat)
    case atStart => exact ⟨M, 0, none, 0, [], rfl, by omega, by omega, rfl, hM5, ⟨rfl, Digs.nil _, by simp⟩, World.ownsRow_nil _ _ _ _, Chg.refl _ _⟩
    case round =>
      obtain ⟨m, i, A, c, o, rfl, hm, hi, rfl, HO⟩ := hrel
      by_cases hm0 : m = 0
      · subst hm0
        go_wp2_with fail
        obtain ⟨_, hO, ho, hn⟩ := HO.out
        have hcap := own_cap ho
        refine (normal_rn false A i c o wr (Rd.of_own ho) hO.digs hcap.1 hcap.2).mono ?_
        rintro e w2 ⟨v, rfl, ⟨s2, A2, n2, c2, rfl, hs2, hm2⟩, hn2⟩
        have hval : sg false (val 10000 o) = (M : Int) := by have := hO.eq; unfold sg; simp at this ⊢; omega
        rw [hval] at hs2 hm2
        have hb2 := (HB.out.1.chg hn (fun h => h)).chg hn2 (fun h => h)
        have hc0 := hb2.cell 0 (u := .bool false) rfl
        have hc1 := hb2.cell 1 (u := .slice none 0 0) rfl
        have hf0 := hb2.frozen 0
        have hf1 := hb2.frozen 1
        have H2 := Lib.hid (And.intro hb2 (And.intro (HB.out.2.new (hn.new hn2)) (And.intro hs2 hm2)))
        clear hO ho hn hcap hn2 hs2 hm2 hval hb2 HO
        go_wp2
        obtain ⟨hb2, hn2, hs2, hm2⟩ := H2.out
        refine bodyPost_ret (res_c rfl _ rfl (aggN.load (hb2.set2 _ _))) rfl ⟨_, rfl, ⟨s2, A2, n2, c2, rfl, hs2, hm2.store hb2 (noInt_two' _ _ _ _) (Chg.at2 _ _ _ _)⟩, ?_⟩
        exact Chg.owned hn2 (Chg.at2 _ _ _ _) (fun k e => by omega)
      · have hi5 : i < 5 := by
          rcases Nat.lt_or_ge i 5 with h | h
          · exact h
          · have := HO.out.1
            rw [show 5 - i = 0 by omega] at this
            omega
        have hne : ((m : Int) != 0) = true := by simp; omega
        obtain ⟨d, hd⟩ : ∃ d, m % 10000 = d := ⟨_, rfl⟩
        obtain ⟨q, hq⟩ : ∃ q, m / 10000 = q := ⟨_, rfl⟩
        have hqm : q < m := by omega
        have hdb : d < 10000 := by omega
        have htm : (m : Int) % 10000 = (d : Int) := by omega
        have htd : (m : Int) / 10000 = (q : Int) := by omega
        have hdn : decide ((d : Int) < 0) = false := by simp
        have HN : Hid (q < 10000 ^ (5 - (i + 1)) ∧ OfI M q (i + 1) (o ++ [d])) := by
          obtain ⟨h1, hO, _⟩ := HO.out
          refine ⟨?_, by rw [← hd, ← hq]; exact hO.step⟩
          rw [← hq, Nat.div_lt_iff_lt_mul (by omega), ← Nat.pow_succ]
          show m < 10000 ^ (5 - (i + 1) + 1)
          rw [show 5 - (i + 1) + 1 = 5 - i by omega]
          exact h1
        clear hd hq
        go_wp2_with (at_builtin; refine wpList_app elemInts rfl _ _ rfl rfl (HO.out.2.2.1.alloc _) rfl (Rd.lit (nv .i64 [d]) rfl) (nv_one _) (by simp only [maxLen]; omega) (by omega) (by have := HO.out.2.2.2.size; simp; omega) ?_; intro A' c' w1 hown hg hat; have HA := Lib.hid (And.intro hown hg); clear hown hg hat)
        go_roundw
        case rel =>
          obtain ⟨hown, hg⟩ := HA.out
          rw [← nv_append] at hown
          refine ⟨q, i + 1, A', c', o ++ [d], rfl, by omega, by omega, rfl, HN.out.1, HN.out.2, hown, ?_⟩
          exact (HO.out.2.2.2.alloc _).grown hg (fun k hk hlt => by have := own_blk_le HO.out.2.2.1 hk; omega)
        case measure => simp [intOf]; omega
end Go.Proofs.Ytgofjkppeobjfaa
