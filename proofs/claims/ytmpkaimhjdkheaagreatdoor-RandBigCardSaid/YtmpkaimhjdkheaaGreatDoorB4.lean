/- The parts WideN, WideO, RefE, RefF, RandBound, RefG, RefH, WideP, WideQ, TextB of the proof, in one text. -/
import Derived.Deep.LoopGhost
import Derived.Lib.ItoaNum
import Derived.Deep.CutRange
import Derived.Deep.RegionHeld3
import Derived.IntWalk
import Derived.Test.YtmpkaimhjdkheaaGreatDoorB3
set_option linter.unusedSimpArgs false
set_option linter.unusedVariables false

namespace Go.Proofs.YtmpkaimhjdkheaaGreatDoor
set_option linter.unusedVariables false
open Go.RowKit Go.Mem Go.Dig Go.Pure

theorem Blk.new' {w : World} {g : Nat} {t : TypeId} {cs : Array Value} (hg : g = w.heap.size) : Blk (w.alloc (.cells cs t)) g t cs := by subst hg; exact Blk.new _ _ _
theorem own_al {w : World} {g : Nat} {e : TypeId} {n c : Nat} {xs : List Value} (h : w.ownsRow g e 1 (.slice (some ⟨g, 0, none⟩) n c) n xs) (o : Obj) : (w.alloc o).ownsRow g e 1 (.slice (some ⟨g, 0, none⟩) n c) n xs := own_chg h ((Chg.refl (fun _ => False) w).alloc o) (fun _ _ h => h)
theorem own_nw {w w' : World} {g : Nat} {e : TypeId} {n c : Nat} {xs : List Value} (h : w.ownsRow g e 1 (.slice (some ⟨g, 0, none⟩) n c) n xs) (hn : New w w') : w'.ownsRow g e 1 (.slice (some ⟨g, 0, none⟩) n c) n xs := own_chg h hn (fun _ _ h => h)
theorem own_fr {w : World} {g : Nat} {e : TypeId} {n c : Nat} {xs : List Value} {p : Addr} (h : w.ownsRow g e 1 (.slice (some ⟨g, 0, none⟩) n c) n xs) (hne : g ≠ p.block) (u : Value) : (w.setCell p u).ownsRow g e 1 (.slice (some ⟨g, 0, none⟩) n c) n xs :=
  own_chg h ((Chg.refl (fun k => k = p.block) w).setCell (p := p) (fun _ => rfl) u) (fun k hk e => by simp [blk] at hk; omega)
theorem bcell {W w1 : World} (hb : Below W.heap.size W w1) : (∀ b o, b < W.heap.size → w1.cell? ⟨b, o, none⟩ = W.cell? ⟨b, o, none⟩) ∧ (∀ b o, b < W.heap.size → w1.frozen? ⟨b, o, none⟩ = W.frozen? ⟨b, o, none⟩) :=
  ⟨fun b o h => hb.cell (p := ⟨b, o, none⟩) h, fun b o h => hb.frozen (p := ⟨b, o, none⟩) h⟩
theorem bitLen32 {x : Nat} (h0 : 1 ≤ x) (h : x < 4294967296) : 1 ≤ Lib.bitLen x ∧ Lib.bitLen x ≤ 32 ∧ x < 2 ^ Lib.bitLen x := by
  have h1 := Lib.bitLenAux_bounds 64 x (by omega) (by omega)
  have h2 := Lib.bitLen_le x 32 (by omega) (by omega)
  exact ⟨h1.1, h2, h1.2.2⟩
theorem lz_any (x : Nat) (h0 : 1 ≤ x) (h : x < 4294967296) (w : World) :
    Calls Tryz.prog 80 #[.int .u32 (x : Int)] w fun e w' => ∃ s : Nat, e = .returned (.int .i64 (s : Int)) ∧ s < 32 ∧ Hid (x * 2 ^ s < 4294967296) ∧ w = w' := by
  refine (Tryz.bits_LeadingZeros32 (x : Int) w (by omega) (by omega)).mono ?_
  rintro e w' ⟨rfl, rfl⟩
  rw [Int.toNat_natCast]
  obtain ⟨h1, h2, h3⟩ := bitLen32 h0 h
  refine ⟨32 - Lib.bitLen x, ?_, by omega, ?_, rfl⟩
  · rw [show (32 : Int) - (Lib.bitLen x : Int) = ((32 - Lib.bitLen x : Nat) : Int) by omega]
  · show _ < _
    have e : (4294967296 : Nat) = 2 ^ Lib.bitLen x * 2 ^ (32 - Lib.bitLen x) := by rw [← Nat.pow_add, show Lib.bitLen x + (32 - Lib.bitLen x) = 32 by omega]
    rw [e]
    exact Nat.mul_lt_mul_of_pos_right h3 (Nat.pow_pos (by omega))
/-- The divisor, shifted: its digits without the last, which is 0. -/
theorem den_facts {lb : List Nat} {n s y : Nat} (hN : Num 4294967296 lb y) (hl : lb.length = n) (hn : 2 ≤ n) (hs : s < 32) (ht : dg lb (n - 1) * 2 ^ s < 4294967296) :
    Digs 4294967296 ((lst (n + 1) (shD 4294967296 (2 ^ s) (2 ^ (32 - s)) lb)).take n) ∧ val 4294967296 ((lst (n + 1) (shD 4294967296 (2 ^ s) (2 ^ (32 - s)) lb)).take n) = y * 2 ^ s := by
  have hPQ : 2 ^ s * 2 ^ (32 - s) = 4294967296 := by rw [← Nat.pow_add, show s + (32 - s) = 32 by omega]
  have hP : 1 ≤ 2 ^ s := Nat.one_le_two_pow
  have hQ : 1 ≤ 2 ^ (32 - s) := Nat.one_le_two_pow
  have hd : Digs 4294967296 (lst (n + 1) (shD 4294967296 (2 ^ s) (2 ^ (32 - s)) lb)) := lst_digs (fun j _ => shD_lt hQ hPQ hP hN.digs j)
  refine ⟨hd.take n, ?_⟩
  have hv := sh_val hQ hPQ hP lb
  rw [hl, hN.val] at hv
  rw [← hv, lst_succ, List.take_left' (by rw [lst_len]), val_snoc]
  have h0 : shD 4294967296 (2 ^ s) (2 ^ (32 - s)) lb n = 0 := by
    rw [shD, dg_none (by omega), Nat.zero_mul, Nat.zero_mod, if_neg (by omega), Nat.zero_add]
    apply Nat.div_eq_of_lt
    refine Nat.lt_of_mul_lt_mul_right (a := 2 ^ s) ?_
    rw [Nat.mul_comm (2 ^ (32 - s)), hPQ]
    exact ht
  rw [h0]; omega
theorem num_facts {la : List Nat} {n s x : Nat} (hN : Num 4294967296 la x) (hl : la.length = n) (hs : s < 32) :
    Digs 4294967296 (lst (n + 1) (shD 4294967296 (2 ^ s) (2 ^ (32 - s)) la)) ∧ val 4294967296 (lst (n + 1) (shD 4294967296 (2 ^ s) (2 ^ (32 - s)) la)) = x * 2 ^ s := by
  have hPQ : 2 ^ s * 2 ^ (32 - s) = 4294967296 := by rw [← Nat.pow_add, show s + (32 - s) = 32 by omega]
  have hP : 1 ≤ 2 ^ s := Nat.one_le_two_pow
  have hQ : 1 ≤ 2 ^ (32 - s) := Nat.one_le_two_pow
  refine ⟨lst_digs (fun j _ => shD_lt hQ hPQ hP hN.digs j), ?_⟩
  have hv := sh_val hQ hPQ hP la
  rwa [hl, hN.val] at hv
theorem kn_low {B x y n n' s : Nat} {L : List Nat} (hB : 1 ≤ B) (hx : x < B ^ n) (hy : B ^ (n' - 1) ≤ y) (h1 : 1 ≤ n') (hnn : n' ≤ n) (hL : L.length = n + 1) (hv : val B L = x * 2 ^ s) : val B (L.drop (n + 1 - n')) < y * 2 ^ s := by
  have h := val_split B L (n + 1 - n') (by omega)
  rw [hv] at h
  have hs : 1 ≤ 2 ^ s := Nat.one_le_two_pow
  rcases Nat.lt_or_ge (val B (L.drop (n + 1 - n'))) (y * 2 ^ s) with hlt | hge
  · exact hlt
  · exfalso
    have e1 : B ^ (n + 1 - n') * (y * 2 ^ s) ≤ B ^ (n + 1 - n') * val B (L.drop (n + 1 - n')) := Nat.mul_le_mul_left _ hge
    have e2 : B ^ n ≤ B ^ (n + 1 - n') * y := by
      have : B ^ n = B ^ (n + 1 - n') * B ^ (n' - 1) := by rw [← Nat.pow_add]; congr 1; omega
      rw [this]
      exact Nat.mul_le_mul_left _ hy
    have e3 : B ^ n * 2 ^ s ≤ B ^ (n + 1 - n') * y * 2 ^ s := Nat.mul_le_mul_right _ e2
    have e4 : x * 2 ^ s < B ^ n * 2 ^ s := Nat.mul_lt_mul_of_pos_right hx (by omega)
    rw [Nat.mul_assoc] at e3
    omega
theorem top_of_val {B : Nat} {l : List Nat} {m : Nat} (hd : Digs B l) (hl : l.length = m + 2) (hv : B ^ (m + 1) ≤ val B l) : 1 ≤ dg l (m + 1) := by
  rcases Nat.eq_zero_or_pos (dg l (m + 1)) with h0 | h0
  · exfalso
    have e : l = l.take (m + 1 + 1) := by rw [List.take_of_length_le (by omega)]
    have h1 : val B l = val B (l.take (m + 1)) := by
      have h2 := val_take_dg B l (m + 1)
      rw [h0, Nat.mul_zero, Nat.add_zero, ← e] at h2
      exact h2
    have h3 := val_lt (hd.take (m + 1))
    rw [List.length_take, Nat.min_eq_left (by omega)] at h3
    omega
  · exact h0
theorem dig_at {l : List Nat} {i : Nat} (h : i < l.length) : l[i]? = some (dg l i) := by
  rw [List.getElem?_eq_getElem h, dg_some (List.getElem?_eq_getElem h)]
theorem top_pos {B : Nat} {l : List Nat} {y n : Nat} (h : Num B l y) (hl : l.length = n) (hn : 1 ≤ n) : 1 ≤ dg l (n - 1) := by
  rcases Nat.eq_zero_or_pos (dg l (n - 1)) with h0 | h0
  · exfalso
    have ht := h.trim
    unfold Trim at ht
    apply ht
    rw [List.getLast?_eq_getElem?, hl, dig_at (by omega), h0]
  · exact h0

theorem WM.chg {S : Nat → Prop} {w w' : World} {A : Option Addr} {n c m : Nat} (h : WM w A n c m) (hc : Chg S w w') (hs : ∀ k, blk A = some k → ¬ S k) : WM w' A n c m := by
  obtain ⟨l, h1, h2⟩ := h
  exact ⟨l, h1.chg hc (fun k hk _ => hs k hk), h2⟩
theorem low_len' {s n : Nat} {L : List Nat} (hn : n ≤ L.length) : (lwL s n L n).take n = low 4294967296 (2 ^ s) (2 ^ (32 - s)) (L.take n) := by
  have hl : (low 4294967296 (2 ^ s) (2 ^ (32 - s)) (L.take n)).length = n := by rw [low_len]; simp; omega
  unfold lwL
  rw [List.take_of_length_le (l := low _ _ _ _) (by omega), List.take_left' hl]
theorem div_ends {x y s X D N n : Nat} {L q : List Nat} (hX : x * 2 ^ s = X) (hD : y * 2 ^ s = D) (h : KnI 4294967296 X D N n 0 L q) (hn : n ≤ N) (hDn : D ≤ 4294967296 ^ n) (hs : s < 32) :
    val 4294967296 q = x / y ∧ val 4294967296 (low 4294967296 (2 ^ s) (2 ^ (32 - s)) (L.take n)) = x % y := by
  obtain ⟨h1, h2⟩ := h.done
  have hp : 0 < 2 ^ s := Nat.pow_pos (by omega)
  have hlow := h.low
  rw [List.drop_zero] at hlow
  have hPQ : 2 ^ s * 2 ^ (32 - s) = 4294967296 := by rw [← Nat.pow_add, show s + (32 - s) = 32 by omega]
  refine ⟨by rw [h1, ← hX, ← hD, Nat.mul_div_mul_right _ _ hp], ?_⟩
  rw [low_val hPQ Nat.one_le_two_pow Nat.one_le_two_pow]
  have hsp := val_split 4294967296 L n (by rw [h.len]; exact hn)
  have h0 : val 4294967296 (L.drop n) = 0 := by
    rcases Nat.eq_zero_or_pos (val 4294967296 (L.drop n)) with h0 | h0
    · exact h0
    · have := Nat.le_mul_of_pos_right (4294967296 ^ n) h0
      omega
  rw [h0, Nat.mul_zero, Nat.add_zero] at hsp
  rw [← hsp, h2, ← hX, ← hD, Nat.mul_mod_mul_right, Nat.mul_div_cancel _ hp]

set_option maxRecDepth 100000 in
set_option maxHeartbeats 4000000 in
theorem divMag_long (A : Option Addr) (n c : Nat) (A' : Option Addr) (n' c' : Nat) (x y : Nat) (w : World) (hx : WM w A n c x) (hy : WM w A' n' c' y) (hn : n ≤ 900000) (hn' : 2 ≤ n') (hle : y ≤ x) :
    Calls Tryz.prog 56 #[.slice A n c, .slice A' n' c'] w fun e w' => ∃ Q nq cq R nr cr, e = .returned (.tuple #[.slice Q nq cq, .slice R nr cr]) ∧ Hid (WM w' Q nq cq (x / y) ∧ WM w' R nr cr (x % y) ∧ New w w') := by
  obtain ⟨la, ha, hc1, hc2, hNa⟩ := hx
  obtain ⟨lb, hb, hd1, hd2, hNb⟩ := hy
  have hla : la.length = n := by have := ha.len; rwa [nv_length] at this
  have hlb : lb.length = n' := by have := hb.len; rwa [nv_length] at this
  have hnn : n' ≤ n := by
    rcases Nat.lt_or_ge n n' with h | h
    · have := hNa.len_lt (by omega) hNb (by omega); omega
    · exact h
  obtain ⟨t, ht⟩ : ∃ t, dg lb (n' - 1) = t := ⟨_, rfl⟩
  have ht1 := top_pos hNb hlb (by omega)
  rw [ht] at ht1
  have htb : t < 4294967296 := by rw [← ht]; exact dg_lt hNb.digs (by omega) _
  obtain ⟨j1, hj1⟩ : ∃ j, n' - 1 = j := ⟨_, rfl⟩
  obtain ⟨bd, u, rfl, hu, hcu⟩ := hb.at_ (show j1 < n' by omega)
  obtain ⟨z, hz, rfl⟩ := nv_at hu
  obtain rfl : t = z := by rw [← ht, hj1, dg_some hz]
  have hji : (n' : Int) - 1 = (j1 : Int) := by omega
  have hjn : j1 < n' := by omega
  have H0 := Lib.hid (And.intro ha (And.intro hb (And.intro hNa (And.intro hNb (And.intro hla (And.intro hlb ht))))))
  have hcm : Calls Tryz.prog 42 #[.slice A n c, .slice (some bd) n' c'] w fun e w' => e = .returned (.int .i64 (cmpI x y)) ∧ ∃ q, w' = w.drewN q := cmpMag_any _ _ _ _ _ _ x y w ⟨la, ha, hc1, hc2, hNa⟩ ⟨lb, hb, hd1, hd2, hNb⟩
  have HC := Lib.hid hcm
  have hcv : decide (cmpI (x : Int) (y : Int) < 0) = false := by
    unfold cmpI
    rw [if_neg (by omega)]
    split <;> decide
  have hne1 : ((n' : Int) == 1) = false := by simp; omega
  clear hcm ha hb hNa hNb hla hlb ht hu hz hj1
  go_enter Tryz.func56, Tryz.ntmps56
  go_wp2_with fail
  go_step3
  go_wp2_with fail
  refine HC.out.mono ?_
  rintro e w1 ⟨rfl, q1, hq1⟩
  generalize cmpI (x : Int) (y : Int) = cv at *
  have hn1 : New w w1 := by rw [hq1]; exact (Chg.refl _ _).drewN q1
  have hcu1 := hn1.cell hcu (fun h => h)
  have HN1 := Lib.hid hn1
  clear hcu hn1 hq1 HC
  go_wp2_with fail
  refine (lz_any t ht1 htb w1).mono ?_
  rintro e w2 ⟨s, rfl, hs, HS, rfl⟩
  clear hcu1
  have hca : ∀ W', New w1 W' → Calls Tryz.prog 81 #[.slice A n c, .int .i64 s] W' fun e w' => ∃ g, e = .returned (.slice (some ⟨g, 0, none⟩) ((n + 1 : Nat)) ((n + 1 : Nat))) ∧ Hid (w'.ownsRow g 58 1 (.slice (some ⟨g, 0, none⟩) ((n + 1 : Nat)) ((n + 1 : Nat))) (n + 1) (nv .u32 (lst (n + 1) (shD 4294967296 (2 ^ s) (2 ^ (32 - s)) la)))) ∧ Hid (g = W'.heap.size) ∧ Hid (New W' w') := fun W' h =>
    (shifted_any A n c s W' la (H0.out.1.new (HN1.out.new h)) H0.out.2.2.1.digs hc1 (by unfold maxLen; omega) (by omega) hs).mono fun e w' ⟨g, h1, h2⟩ => ⟨g, h1, h2.out.1, h2.out.2.1, h2.out.2.2⟩
  have hcb : ∀ W', New w1 W' → Calls Tryz.prog 81 #[.slice (some bd) n' c', .int .i64 s] W' fun e w' => ∃ g, e = .returned (.slice (some ⟨g, 0, none⟩) ((n' + 1 : Nat)) ((n' + 1 : Nat))) ∧ Hid (w'.ownsRow g 58 1 (.slice (some ⟨g, 0, none⟩) ((n' + 1 : Nat)) ((n' + 1 : Nat))) (n' + 1) (nv .u32 (lst (n' + 1) (shD 4294967296 (2 ^ s) (2 ^ (32 - s)) lb)))) ∧ Hid (g = W'.heap.size) ∧ Hid (New W' w') := fun W' h =>
    (shifted_any (some bd) n' c' s W' lb (H0.out.2.1.new (HN1.out.new h)) H0.out.2.2.2.1.digs hd1 (by unfold maxLen; omega) (by omega) hs).mono fun e w' ⟨g, h1, h2⟩ => ⟨g, h1, h2.out.1, h2.out.2.1, h2.out.2.2⟩
  have HA := Lib.hid (And.intro hca hcb)
  clear hca hcb
  have hup := fun (W : World) (g : Nat) => run_upto elemU32 .i64 (some ⟨g, 0, none⟩) (n' + 1) (n' + 1) n' (n' : Int) rfl (by omega) W
  go_upto_region 7 with fail
  generalize hWb : w1 = Wb at *
  clear hWb
  go_cut [9, 10] from 48 to 56 (fun v u wc => ∃ g gd gN gD : Nat, v = .pointer (some ⟨gN, 0, none⟩) ∧ u = .pointer (some ⟨gD, 0, none⟩) ∧ Hid (Blk wc gN 33 #[.slice (some ⟨g, 0, none⟩) (n + 1) (n + 1)] ∧ Blk wc gD 33 #[.slice (some ⟨gd, 0, none⟩) n' (n' + 1)] ∧ gN ≠ gD ∧ g < gd ∧ wc.ownsRow g 58 1 (.slice (some ⟨g, 0, none⟩) ((n + 1 : Nat)) ((n + 1 : Nat))) (n + 1) (nv .u32 (lst (n + 1) (shD 4294967296 (2 ^ s) (2 ^ (32 - s)) la))) ∧ wc.ownsRow gd 58 1 (.slice (some ⟨gd, 0, none⟩) ((n' + 1 : Nat)) ((n' + 1 : Nat))) (n' + 1) (nv .u32 (lst (n' + 1) (shD 4294967296 (2 ^ s) (2 ^ (32 - s)) lb))) ∧ w.heap.size ≤ g ∧ w.heap.size ≤ gN ∧ w.heap.size ≤ gD ∧ New w wc))
  case first =>
    go_region_with (first
      | (go_at_call 81; (with_reducible refine (HA.out.1 _ ?_).mono ?_); (first | exact (Chg.refl _ _).drew | exact ((Chg.refl _ _).alloc _).drew | exact (((Chg.refl _ _).alloc _).alloc _).drew); rintro e w5 ⟨g, rfl, HO5, HG5, HN5⟩; (have HB5 : New Wb w5 := by (first | exact ((Chg.refl _ _).drew).new HN5.out | exact (((Chg.refl _ _).alloc _).drew).new HN5.out | exact ((((Chg.refl _ _).alloc _).alloc _).drew).new HN5.out)); obtain ⟨hc5, hf5⟩ := bcell (New.below HN5.out); (have hz5 := HN5.out.size); (try simp only [World.size_alloc, World.drew] at hz5); (try have hs51 : Wb.heap.size < w5.heap.size := by omega); (try have hs52 : Wb.heap.size + 1 < w5.heap.size := by omega))
      | (go_at_call 81; (with_reducible refine (HA.out.2 _ ?_).mono ?_); (first | exact HB5 | exact HB5.alloc _ | exact (HB5.alloc _).alloc _); rintro e w6 ⟨gd, rfl, HO6, HG6, HN6⟩; obtain ⟨hc6, hf6⟩ := bcell (New.below HN6.out); (have hz6 := HN6.out.size); (try simp only [World.size_alloc, World.drew] at hz6); (have HB6 : New Wb w6 := by (first | exact HB5.new HN6.out | exact (HB5.alloc _).new HN6.out | exact ((HB5.alloc _).alloc _).new HN6.out)); (try have hs61 : Wb.heap.size < w6.heap.size := by omega); (try have hs62 : Wb.heap.size + 1 < w6.heap.size := by omega); (try have hs63 : w5.heap.size < w6.heap.size := by omega); (try have hs64 : w5.heap.size + 1 < w6.heap.size := by omega)))
    all_goals
      clear hc5 hf5 hc6 hf6 hup
      go_wp2_with fail
      go_meet
      case rel =>
        have hg5 := HG5.out
        have hg6 := HG6.out
        (try simp only [World.size_alloc, World.drew] at hg5)
        (try simp only [World.size_alloc, World.drew] at hg6)
        have hg5b := (own_blk_le HO5.out (k := g) (by simp [blk])).2
        have hs0 := HN1.out.size
        have hz65 := HN6.out.size
        (try simp only [World.size_alloc] at hz65)
        have hw6 : New w w6 := HN1.out.new HB6
        refine ⟨g, gd, _, _, rfl, rfl, ?_, ?_, ?_, ?_, ?_, ?_, ?_, ?_, ?_, ?_⟩
        · repeat (first | (refine Blk.new' ?_; (first | rfl | (simp; done))) | refine Blk.alloc ?_ _ | refine Blk.set1 (x := .slice none 0 0) ?_ _ | (refine Blk.far (p := ⟨_, 0, none⟩) ?_ ?_ _; rotate_left; (dsimp only; omega)) | refine Blk.chg ?_ HN6.out (fun h => h) | refine Blk.chg ?_ HN5.out (fun h => h) | refine Blk.drew ?_)
        · repeat (first | (refine Blk.new' ?_; (first | rfl | (simp; done))) | refine Blk.alloc ?_ _ | refine Blk.set1 (x := .slice none 0 0) ?_ _ | (refine Blk.far (p := ⟨_, 0, none⟩) ?_ ?_ _; rotate_left; (dsimp only; omega)) | refine Blk.chg ?_ HN6.out (fun h => h) | refine Blk.chg ?_ HN5.out (fun h => h) | refine Blk.drew ?_)
        · omega
        · omega
        · repeat (first | exact HO5.out | refine own_al ?_ _ | (refine own_fr (p := ⟨_, 0, none⟩) ?_ ?_ _; rotate_left; (dsimp only; omega)) | refine own_nw ?_ HN6.out)
        · repeat (first | exact HO6.out | refine own_al ?_ _ | (refine own_fr (p := ⟨_, 0, none⟩) ?_ ?_ _; rotate_left; (dsimp only; omega)))
        · omega
        · omega
        · omega
        · repeat (first | exact hw6 | refine Chg.alloc ?_ _ | refine Chg.setCell ?_ (fun h => absurd h (by dsimp only; omega)) _)
  case rest =>
    obtain ⟨g, gd, gN, gD, rfl, rfl, HR⟩ := hcut
    clear HA hup
    obtain ⟨bN, bD, hND, hggd, ho, hod, hwg, hwN, hwD, hnw⟩ := HR.out
    obtain ⟨N, hN⟩ : ∃ N, n + 1 = N := ⟨_, rfl⟩
    obtain ⟨K, hK⟩ : ∃ K, N - n' = K := ⟨_, rfl⟩
    have hKi : (N : Int) - (n' : Int) = (K : Int) := by omega
    have hK1 : 1 ≤ K := by omega
    have hNb : N ≤ 900001 := by omega
    have hKN : K + n' = N := by omega
    have hkD := bD.cell 0 (u := .slice (some ⟨gd, 0, none⟩) n' (n' + 1)) rfl
    obtain ⟨hNaX, hNbX, hlaX, hlbX, htX⟩ := H0.out.2.2
    obtain ⟨hnumd, hnumv⟩ := num_facts hNaX hlaX hs
    obtain ⟨hdend, hdenv⟩ := den_facts hNbX hlbX hn' hs (by rw [htX]; exact HS.out)
    obtain ⟨L, hL⟩ : ∃ L, lst (n + 1) (shD 4294967296 (2 ^ s) (2 ^ (32 - s)) la) = L := ⟨_, rfl⟩
    obtain ⟨ld2, hld2⟩ : ∃ l, lst (n' + 1) (shD 4294967296 (2 ^ s) (2 ^ (32 - s)) lb) = l := ⟨_, rfl⟩
    obtain ⟨ld, hld⟩ : ∃ l, ld2.take n' = l := ⟨_, rfl⟩
    rw [hL] at hnumd hnumv ho
    have hLl : L.length = N := by rw [← hL, lst_len, hN]
    rw [hN] at ho bN
    have hkN := bN.cell 0 (u := .slice (some ⟨g, 0, none⟩) N N) rfl
    rw [hld2] at hod
    rw [hld2, hld] at hdend hdenv
    have hld2l : ld2.length = n' + 1 := by rw [← hld2, lst_len]
    have hldl : ld.length = n' := by rw [← hld]; simp [hld2l]
    have hrd : Rd wc (some ⟨gd, 0, none⟩) n' (nv .u32 ld) := by
      have := (Rd.of_own hod).take (k := n') (by omega)
      rwa [nv_take, hld] at this
    obtain ⟨m, hm⟩ : ∃ m, n' = m + 2 := ⟨n' - 2, by omega⟩
    have hj1m : j1 = m + 1 := by omega
    obtain ⟨ld1, hld1⟩ : ∃ d, dg ld j1 = d := ⟨_, rfl⟩
    obtain ⟨nx, hnx⟩ : ∃ d, dg ld m = d := ⟨_, rfl⟩
    have hk1 : wc.cell? ⟨gd, j1, none⟩ = some (.int .u32 (ld1 : Int)) := by
      have := hrd.at_ (k := j1) (by omega)
      obtain ⟨ad, u, hA, hu, hc⟩ := this
      injection hA with hA
      subst hA
      obtain ⟨z, hz, rfl⟩ := nv_at hu
      rw [Addr.add_lit, Nat.zero_add] at hc
      rw [hc, ← hld1, dg_some hz]
    have hk0 : wc.cell? ⟨gd, m, none⟩ = some (.int .u32 (nx : Int)) := by
      have := hrd.at_ (k := m) (by omega)
      obtain ⟨ad, u, hA, hu, hc⟩ := this
      injection hA with hA
      subst hA
      obtain ⟨z, hz, rfl⟩ := nv_at hu
      rw [Addr.add_lit, Nat.zero_add] at hc
      rw [hc, ← hnx, dg_some hz]
    have hld1b : ld1 < 4294967296 := by rw [← hld1]; exact dg_lt hdend (by omega) _
    have hnxb : nx < 4294967296 := by rw [← hnx]; exact dg_lt hdend (by omega) _
    have hmn : m < n' := by omega
    have hw1 : IntKind.i64.wrap ((n' : Int) - 1) = (j1 : Int) := by rw [IntWalk.i64_in _ (by omega)]; omega
    have hw2 : IntKind.i64.wrap ((n' : Int) - 2) = (m : Int) := by rw [IntWalk.i64_in _ (by omega)]; omega
    have HM := Lib.hid (And.intro hm (And.intro hj1m (And.intro hN (And.intro hK hKN))))
    have HD := Lib.hid (And.intro hnumd (And.intro hnumv (And.intro hdend (And.intro hdenv (And.intro hLl (And.intro hldl (And.intro hld1 (And.intro hnx (And.intro hrd (And.intro ho (And.intro bN (And.intro bD (And.intro hND (And.intro hggd (And.intro hwg (And.intro hwN (And.intro hwD hnw)))))))))))))))))
    clear hm hj1m hN hK hKN hnumd hnumv hdend hdenv hLl hldl hld1 hnx hrd ho bN bD hND hggd hwg hwN hwD hnw hL hld2 hld hld2l hod HR hNaX hNbX hlaX hlbX htX hji
    go_upto_region 9 with fail
    refine Code.new1 ?_
    intro W1 bn hnW1 hzW1
    obtain ⟨gn, hgn⟩ : ∃ k, wc.heap.size = k := ⟨_, rfl⟩
    rw [hgn] at bn
    simp only [hgn]
    have hkN1 := hnW1.cell hkN (fun h => h)
    have hkD1 := hnW1.cell hkD (fun h => h)
    have hk11 := hnW1.cell hk1 (fun h => h)
    have hk01 := hnW1.cell hk0 (fun h => h)
    have hkn1 := bn.cell 0 (u := .int .i64 n') rfl
    have H1 := Lib.hid (And.intro bn (And.intro hnW1 hgn))
    clear hkN hkD hk1 hk0 bn hnW1 hzW1 hgn
    go_quiet (fail)
    obtain ⟨W2, hW2⟩ : ∃ W2, W1.drewN nq = W2 := ⟨_, rfl⟩
    have hn12 : New W1 W2 := by rw [← hW2]; exact (Chg.refl _ _).drewN nq
    simp only [hW2]
    have hkN2 := hn12.cell hkN1 (fun h => h)
    have hkn2 := hn12.cell hkn1 (fun h => h)
    have HN2 := Lib.hid hn12
    clear hkN1 hkD1 hk11 hk01 hkn1 hW2 hn12 hw1 hw2
    go_wp2_with (at_make; refine wpList_mk elemU32 rfl rfl _ _ rfl (n := K) rfl rfl (by omega) (by omega) (by omega) (by simp only [maxLen]; omega) ?_; intro w3 hown3 hg3 hz3; have HMK := Lib.hid (And.intro hown3 (And.intro hg3 hz3)); have hkN3 := hg3.cell hkN2 (fun h => h); have hkn3 := hg3.cell hkn2 (fun h => h); clear hown3 hg3 hz3)
    refine Code.new1 ?_
    intro W bQ hnW hzW
    obtain ⟨gq, hgq⟩ : ∃ k, W2.heap.size = k := ⟨_, rfl⟩
    obtain ⟨gQ, hgQ⟩ : ∃ k, w3.heap.size = k := ⟨_, rfl⟩
    obtain ⟨hmk1, hmk2, hmk3⟩ := HMK.out
    obtain ⟨hm, hj1m, hN, hK, hKN⟩ := HM.out
    obtain ⟨hnumd, hnumv, hdend, hdenv, hLl, hldl, hld1, hnx, hrd, ho, bN, bD, hND, hggd, hwg, hwN, hwD, hnw⟩ := HD.out
    obtain ⟨bn, hnW1, hgn⟩ := H1.out
    obtain ⟨haX, hbX, hNaX, hNbX, hlaX, hlbX, htX⟩ := H0.out
    rw [hgq] at hmk1 bQ
    rw [hgQ] at bQ
    have hnc : New wc W := ((hnW1.new HN2.out).new hmk2).new hnW
    have hDpos : 1 ≤ y * 2 ^ s := by
      have h1 : 1 ≤ y := by
        have := hNbX.nil_iff (by omega)
        rcases Nat.eq_zero_or_pos y with h0 | h0
        · rw [this.2 h0] at hlbX; simp at hlbX; omega
        · exact h0
      exact Nat.mul_pos h1 (Nat.pow_pos (by omega))
    have hsz := hnW1.size
    have hsz2 := HN2.out.size
    have hgNl := bN.lt
    have hgDl := bD.lt
    have hgl := (own_blk_le ho (k := g) (by simp [blk])).2
    have hgnl := bn.lt
    have hgdl : gd < wc.heap.size := by
      obtain ⟨ad, u, hA, hu, hc⟩ := hrd.at_ (k := 0) (by omega)
      injection hA with hA
      subst hA
      exact World.block_lt_of_cell? _ _ (by rw [Addr.add_lit] at hc; exact hc)
    have hgNg : gN ≠ g := fun e => (bN.ne_own ho (by decide)) (by simp [blk, e])
    have hgDg : gD ≠ g := fun e => (bD.ne_own ho (by decide)) (by simp [blk, e])
    have hDC : DvC W g gd gq gN gn gD gQ N n' ld (y * 2 ^ s) := ⟨bN.chg hnc (fun h => h), bn.chg ((HN2.out.new hmk2).new hnW) (fun h => h), bD.chg hnc (fun h => h), by rw [hK]; exact bQ, hrd.new hnc, hdend, hdenv, hDpos, by omega, by omega, by omega⟩
    have hstart : DvW W g gq (x * 2 ^ s) (y * 2 ^ s) N n' K W := by
      refine ⟨L, List.replicate K 0, ?_, own_chg ho hnc (fun _ _ h => h), ?_, Chg.refl _ _⟩
      · have := KnI.start (B := 4294967296) (X := x * 2 ^ s) (D := y * 2 ^ s) (N := N) (n := n') (L := L) (by omega) hLl hnumd hnumv (by
          rw [← hN]
          refine kn_low (by omega) (hNaX.lt (by omega) (by omega)) ?_ (by omega) hnn (by omega) hnumv
          have := val_pos (B := 4294967296) (by omega) hNbX.trim (by intro e; rw [e] at hlbX; simp at hlbX; omega)
          rwa [hlbX, hNbX.val] at this)
        rwa [hK] at this
      · rw [hK]
        have := own_chg hmk1 hnW (fun _ _ h => h)
        rwa [show List.replicate K (Value.int .u32 0) = nv .u32 (List.replicate K 0) by simp [nv]] at this
    have HX := Lib.hid (And.intro hDC (And.intro hstart (And.intro (hnw.new hnc) (And.intro hwg (show w.heap.size ≤ gq by have := hnw.size; omega)))))
    have HTV : Hid (4294967296 ^ (m + 1) ≤ val 4294967296 ld) := by
      show _ ≤ _
      rw [hdenv]
      have := val_pos (B := 4294967296) (by omega) hNbX.trim (by intro e; rw [e] at hlbX; simp at hlbX; omega)
      rw [hlbX, hNbX.val, hm, show m + 2 - 1 = m + 1 by omega] at this
      exact Nat.le_trans this (Nat.le_mul_of_pos_right _ (Nat.pow_pos (by omega)))
    simp only [hgq]
    simp only [hgQ]
    clear hgq hgQ hmk1 hmk2 hmk3 hm hj1m hN hK hKN hnumd hnumv hdend hdenv hLl hldl hld1 hnx hrd ho bN bD hND hggd hwg hwN hwD hnw bn hnW1 hgn haX hbX hNaX hNbX hlaX hlbX htX bQ hnc hDpos hsz hsz2 hgNl hgDl hgl hgnl hgdl hgNg hgDg hDC hstart hnW hzW HMK hkN3 hkn3 hkN2 hkn2
    have hkNW := HX.out.1.bN.cell 0 (u := .slice (some ⟨g, 0, none⟩) N N) rfl
    have hknW := HX.out.1.bn.cell 0 (u := .int .i64 n') rfl
    obtain ⟨X, hX⟩ : ∃ X, x * 2 ^ s = X := ⟨_, rfl⟩
    obtain ⟨D, hD⟩ : ∃ D, y * 2 ^ s = D := ⟨_, rfl⟩
    rw [hX, hD] at HX
    have HXD := Lib.hid (And.intro hX hD)
    clear hX hD
    go_step3
    go_wp2_with fail
    clear hkNW hknW hKi
    go_loopg [16] K (fun k s16 wr => s16 = .int .i64 ((k : Int) - 1) ∧ k ≤ K ∧ Hid (DvW W g gq X D N n' k wr))
    case atStart => exact ⟨rfl, Nat.le_refl _, HX.out.2.1⟩
    case round =>
      obtain ⟨rfl, hkK, HV⟩ := hrel
      obtain ⟨wo, rfl⟩ : ∃ wo : World, wo = wr := ⟨_, rfl⟩
      have hCW := HX.out.1.chg HV.out.choose_spec.choose_spec.2.2.2
      have hkNo := hCW.bN.cell 0 (u := .slice (some ⟨g, 0, none⟩) N N) rfl
      have hkno := hCW.bn.cell 0 (u := .int .i64 n') rfl
      have hkQo := hCW.bQ.cell 0 (u := .slice (some ⟨gq, 0, none⟩) (N - n') (N - n')) rfl
      have HCW := Lib.hid hCW
      clear hCW
      cases gk with
      | zero =>
        obtain ⟨Lc, qc, hKn, hLo, hqo, hcho⟩ := HV.out
        obtain ⟨hm, hj1m, hN, hK, hKN⟩ := HM.out
        have hC0 := HX.out.1
        have hDn : D ≤ 4294967296 ^ n' := by
          have h1 := val_lt hC0.dd
          have h2 := hC0.rd.len
          rw [nv_length] at h2
          rw [hC0.vd, h2] at h1
          omega
        obtain ⟨hv1, hv2⟩ := div_ends HXD.out.1 HXD.out.2 hKn (by omega) hDn hs
        have hne := hC0.ne
        have hnN : n' ≤ N := by omega
        have hT1 : ∀ W', New wo W' → Calls Tryz.prog 36 #[.slice (some ⟨gq, 0, none⟩) (N - n') (N - n')] W' fun e w' => ∃ T, e = .returned (.slice (some ⟨gq, 0, none⟩) T (N - n')) ∧ Hid (WM W' (some ⟨gq, 0, none⟩) T (N - n') (x / y)) ∧ W' = w' := fun W' h =>
          (trim_wm _ _ _ qc W' ((Rd.of_own hqo).new h) hKn.qdigs (Nat.le_refl _) (by omega)).mono fun e w' ⟨T, h1, h2, h3⟩ => ⟨T, h1, by have := h2.out.1; rw [hv1] at this; exact this, h3⟩
        have hLw : ∀ W', New wo W' → Calls Tryz.prog 84 #[.slice (some ⟨g, 0, none⟩) n' N, .int .i64 s] W' fun e w' => e = .returned (.slice (some ⟨g, 0, none⟩) n' N) ∧ Hid (w'.ownsRow g 58 1 (.slice (some ⟨g, 0, none⟩) N N) N (nv .u32 (lwL s n' Lc n')) ∧ Chg (fun k => k = g) wo w') := fun W' h =>
          (lowered_any g n' N s Lc W' (own_chg hLo h (fun _ _ h => h)) hKn.digs hnN (by omega) hs).mono fun e w' ⟨h1, h2⟩ => ⟨h1, h2.out.1, (h.mono (fun _ _ h => h.elim)).trans h2.out.2 (fun _ _ h => h)⟩
        have hT2 : ∀ W', W'.ownsRow g 58 1 (.slice (some ⟨g, 0, none⟩) N N) N (nv .u32 (lwL s n' Lc n')) → Calls Tryz.prog 36 #[.slice (some ⟨g, 0, none⟩) n' N] W' fun e w' => ∃ T, e = .returned (.slice (some ⟨g, 0, none⟩) T N) ∧ Hid (WM W' (some ⟨g, 0, none⟩) T N (x % y)) ∧ W' = w' := fun W' h => by
          have hr := (Rd.of_own h).take (k := n') hnN
          rw [nv_take, low_len' (by rw [hKn.len]; exact hnN)] at hr
          exact (trim_wm _ _ _ _ W' hr (low_digs (by rw [← Nat.pow_add, show s + (32 - s) = 32 by omega]) Nat.one_le_two_pow Nat.one_le_two_pow (hKn.digs.take n')) hnN (by omega)).mono fun e w' ⟨T, h1, h2, h3⟩ => ⟨T, h1, by have := h2.out.1; rw [hv2] at this; exact this, h3⟩
        have HT := Lib.hid (And.intro hT1 (And.intro hLw hT2))
        have HEND := Lib.hid (And.intro hcho (And.intro HX.out.2.2 hne))
        have hup : ∀ W, (Instr.slice 33 (.slice (some ⟨g, 0, none⟩) N N) none (some (.int .i64 (n' : Int))) none).run Tryz.prog W = .ok (.slice (some ⟨g, 0, none⟩) n' N) W := fun W => run_upto elemU32 .i64 (some ⟨g, 0, none⟩) N N n' (n' : Int) rfl hnN W
        clear hKn hLo hqo hcho hm hj1m hN hK hKN hC0 hDn hv1 hv2 hne hT1 hLw hT2
        have hneg : decide ((0 : Int) ≤ ((0 : Nat) : Int) - 1) = false := by simp
        rw [show (((0 : Nat) : Int) - 1) = -1 by rfl]
        go_wp2_with fail
        go_region_held3 (fun w' => w'.cell? ⟨gQ, 0, none⟩ = some (.slice (some ⟨gq, 0, none⟩) (N - n') (N - n')) ∧ w'.cell? ⟨gN, 0, none⟩ = some (.slice (some ⟨g, 0, none⟩) N N) ∧ w'.cell? ⟨gn, 0, none⟩ = some (.int .i64 n')) (first | exact ⟨by assumption, by assumption, by assumption⟩)
          (first
            | (go_at_call 36; (with_reducible refine (HT.out.1 _ ?_).mono ?_); exact (Chg.refl _ _).drew; rintro e w4 ⟨T1, rfl, HW4, rfl⟩)
            | (go_at_call 84; (with_reducible refine (HT.out.2.1 _ ?_).mono ?_); exact (Chg.refl _ _).drew; rintro e w5 ⟨rfl, H5⟩; have hd1 := H5.out.2.cell hkQo (by have := HEND.out.2.2; dsimp only; omega); have hd2 := H5.out.2.cell hkNo (by have := HEND.out.2.2; dsimp only; omega); have hd3 := H5.out.2.cell hkno (by have := HEND.out.2.2; dsimp only; omega))
            | (go_at_call 36; (with_reducible refine (HT.out.2.2 _ H5.out.1).mono ?_); rintro e w6 ⟨T2, rfl, HW6, rfl⟩))
        all_goals
          clear hd1 hd2 hd3 hkNo hkno hkQo hup
          go_wp2_with fail
          (try rw [Exit.noGoto_ret])
          go_ret2
          obtain ⟨hcho, ⟨hnW, hg1, hg2⟩, hne⟩ := HEND.out
          have hc5 : Chg (fun k => k = g) wo.drew w5 := ⟨H5.out.2.os, H5.out.2.tape, H5.out.2.output, H5.out.2.size, H5.out.2.block⟩
          refine ⟨_, _, _, _, _, _, rfl, HW4.out.chg hc5 (fun k hk e => by simp [blk] at hk; omega), HW6.out, ?_⟩
          refine hnW.trans (T := fun k => k = g ∨ k = gq) (hcho.trans H5.out.2 (fun _ _ h => .inl h)) (fun k hk e => by omega)
      | succ j =>
        have hj0 : (((j + 1 : Nat) : Int) - 1) = (j : Int) := by omega
        rw [hj0]
        clear hj0
        obtain ⟨Lc, qc, hKn, hLo, hqo, hcho⟩ := HV.out
        obtain ⟨hm, hj1m, hN, hK, hKN⟩ := HM.out
        obtain ⟨hnumd, hnumv, hdend, hdenv, hLl, hldl, hld1, hnx, hrd, ho, bN, bD, hND, hggd, hwg, hwN, hwD, hnw⟩ := HD.out
        have hjn : j + (n' + 1) ≤ N := by omega
        obtain ⟨U, hU⟩ : ∃ U, val 4294967296 ((Lc.drop j).take (n' + 1)) = U := ⟨_, rfl⟩
        have hes := hKn.esb (m := m) (b := ld) (by omega) hm hdend hldl HX.out.1.vd (top_of_val hdend (by omega) HTV.out) hU
        have hu2 := own_cell hLo (i := j + n') (u := .int .u32 (dg Lc (j + n') : Nat)) (by rw [nv, List.getElem?_map, dig_at (by have := hKn.len; omega)]; rfl)
        have hu1 := own_cell hLo (i := j + j1) (u := .int .u32 (dg Lc (j + j1) : Nat)) (by rw [nv, List.getElem?_map, dig_at (by have := hKn.len; omega)]; rfl)
        have hu0 := own_cell hLo (i := j + m) (u := .int .u32 (dg Lc (j + m) : Nat)) (by rw [nv, List.getElem?_map, dig_at (by have := hKn.len; omega)]; rfl)
        have hb2 := dg_lt hKn.digs (by omega) (j + n')
        have hb1 := dg_lt hKn.digs (by omega) (j + j1)
        have hb0 := dg_lt hKn.digs (by omega) (j + m)
        rw [← hm, ← hj1m, hld1, hnx] at hes
        obtain ⟨u2, hu2e⟩ : ∃ d, dg Lc (j + n') = d := ⟨_, rfl⟩
        obtain ⟨u1, hu1e⟩ : ∃ d, dg Lc (j + j1) = d := ⟨_, rfl⟩
        obtain ⟨u0, hu0e⟩ : ∃ d, dg Lc (j + m) = d := ⟨_, rfl⟩
        obtain ⟨a2, ha2⟩ : ∃ a, j + n' = a := ⟨_, rfl⟩
        obtain ⟨a1, ha1⟩ : ∃ a, j + j1 = a := ⟨_, rfl⟩
        obtain ⟨a0, ha0⟩ : ∃ a, j + m = a := ⟨_, rfl⟩
        rw [hu2e] at hu2 hb2 hes
        rw [hu1e] at hu1 hb1 hes
        rw [hu0e] at hu0 hb0 hes
        rw [ha2] at hu2
        rw [ha1] at hu1
        rw [ha0] at hu0
        obtain ⟨T, hT⟩ : ∃ T, u2 * 4294967296 + u1 = T := ⟨_, rfl⟩
        rw [hT] at hes
        have hld11 : 1 ≤ ld1 := hes.ld1
        obtain ⟨Q, hQ⟩ : ∃ Q, U / D = Q := ⟨_, rfl⟩
        rw [hQ] at hes
        have hor : bits .or .u64 ((u2 : Int) * 4294967296) (u1 : Int) = (T : Int) := by rw [shl_or32 u2 u1 hb2 hb1, hT]
        have hTb : T < 18446744073709551616 := by omega
        have hi2 : (j : Int) + (n' : Int) = (a2 : Int) := by omega
        have hi1 : (a2 : Int) - 1 = (a1 : Int) := by omega
        have hi0 : (a2 : Int) - 2 = (a0 : Int) := by omega
        have haN : a2 < N ∧ a1 < N ∧ a0 < N := by omega
        have hw2 : IntKind.i64.wrap ((j : Int) + (n' : Int)) = (a2 : Int) := by rw [IntWalk.i64_in _ (by omega)]; omega
        have hw1 : IntKind.i64.wrap ((a2 : Int) - 1) = (a1 : Int) := by rw [IntWalk.i64_in _ (by omega)]; omega
        have HE := Lib.hid (And.intro hKn (And.intro hLo (And.intro hqo (And.intro hcho (And.intro hU (And.intro hQ (And.intro hes hT)))))))
        have HA2 := Lib.hid (And.intro hi2 hi0)
        clear hKn hLo hqo hcho hm hj1m hN hK hKN hnumd hnumv hdend hdenv hLl hldl hld1 hnx hrd ho bN bD hND hggd hwg hwN hwD hnw hU hes hu2e hu1e hu0e ha2 ha1 ha0 hT hQ hi2 hi1 hi0
        go_wp2_with fail
        go_quiet (fail)
        obtain ⟨wp, hwp⟩ : ∃ wp, wo.drewN nq = wp := ⟨_, rfl⟩
        have hnp : New wo wp := by rw [← hwp]; exact (Chg.refl _ _).drewN nq
        simp only [hwp]
        obtain ⟨dq, hdq⟩ : ∃ d, T / ld1 = d := ⟨_, rfl⟩
        obtain ⟨rq, hrq⟩ : ∃ d, T % ld1 = d := ⟨_, rfl⟩
        have hdv2 : (T : Int) / (ld1 : Int) = (dq : Int) := by rw [← hdq]; simp
        have hmd2 : (T : Int) % (ld1 : Int) = (rq : Int) := by rw [← hrq]; simp
        have hdv : (T : Int).tdiv (ld1 : Int) = (dq : Int) := by rw [Int.tdiv_eq_ediv_of_nonneg (by omega), hdv2]
        have hmd : (T : Int).tmod (ld1 : Int) = (rq : Int) := by rw [Int.tmod_eq_emod_of_nonneg (by omega), hmd2]
        have hdqb : dq < 18446744073709551616 := by rw [← hdq]; exact Nat.lt_of_le_of_lt (Nat.div_le_self _ _) hTb
        have hrqb : rq < 4294967296 := by rw [← hrq]; exact Nat.lt_trans (Nat.mod_lt _ (by omega)) hld1b
        have HQR := Lib.hid (And.intro hdq hrq)
        clear hdq hrq
        have hld0 : ((ld1 : Int) == 0) = false := by simp; omega
        have hld0' : ¬ (ld1 : Int) = 0 := by omega
        have HNP := Lib.hid hnp
        have HU0 := Lib.hid hu0
        clear hnp hwp hw2 hw1 hkNo hkno hkQo hu2 hu1 hu0 hor
        go_wp2_with fail
        go_quiet (fail)
        obtain ⟨wq, hwq⟩ : ∃ wq, wp.drewN nq = wq := ⟨_, rfl⟩
        have hnq : New wo wq := HNP.out.new (by rw [← hwq]; exact (Chg.refl _ _).drewN nq)
        simp only [hwq]
        have hset : ∀ dgt, dgt < 4294967296 → Q ≤ dgt → dgt ≤ Q + 1 → Calls Tryz.prog 82 #[.int .i64 j, .int .u64 dgt, .pointer (some ⟨gN, 0, none⟩), .pointer (some ⟨gn, 0, none⟩), .pointer (some ⟨gD, 0, none⟩), .pointer (some ⟨gQ, 0, none⟩)] wq fun e w' => (∃ v, e = .returned v) ∧ Hid (DvW W g gq X D N n' j w') := fun dgt h1 h2 h3 => by
          obtain ⟨hKn, hLo, hqo, hcho, hU, hQ, hes, hT⟩ := HE.out
          exact settle_any wq HX.out.1 hKn (own_chg hLo hnq (fun _ _ h => h)) (own_chg hqo hnq (fun _ _ h => h)) (hcho.new hnq) hjn hU hQ h1 h2 h3
        have hkNq := (HCW.out.bN.chg hnq (fun h => h)).cell 0 (u := .slice (some ⟨g, 0, none⟩) N N) rfl
        have hknq := (HCW.out.bn.chg hnq (fun h => h)).cell 0 (u := .int .i64 n') rfl
        have hu0q := hnq.cell HU0.out (fun h => h)
        have HSET := Lib.hid hset
        have HES := Lib.hid (EsI.start HE.out.2.2.2.2.2.2.1 (Nat.one_le_pow _ _ (by omega)))
        rw [HQR.out.1, HQR.out.2] at HES
        clear hwq hset hnq hdv2 hmd2 hdv hmd hld0 hld0'
        go_wp2_with fail
        go_loopg [18, 19] dq (fun d s18 s19 wi => ∃ r : Nat, s18 = .int .u64 (d : Int) ∧ s19 = .int .u64 (r : Int) ∧ r < 4294967296 ∧ d < 18446744073709551616 ∧ Hid (EsI 4294967296 T ld1 nx u0 Q d r) ∧ wi = wq)
        case atStart => exact ⟨rq, rfl, rfl, hrqb, hdqb, HES, rfl⟩
        case round =>
          obtain ⟨r, rfl, rfl, hrb, hdb, HI, rfl⟩ := hrel
          obtain ⟨M, hM⟩ : ∃ M, gk * nx = M := ⟨_, rfl⟩
          obtain ⟨R, hR⟩ : ∃ R, r * 4294967296 + u0 = R := ⟨_, rfl⟩
          have hRb : R < 18446744073709551616 := by omega
          have hor2 : bits .or .u64 ((r : Int) * 4294967296) (u0 : Int) = (R : Int) := by rw [shl_or32 r u0 hrb hb0, hR]
          have hw2 : (j : Int) + (n' : Int) = (a2 : Int) := HA2.out.1
          have hw0 : (a2 : Int) - 2 = (a0 : Int) := HA2.out.2
          by_cases hB : gk < 4294967296
          · have hsh : (gk : Int) / 4294967296 = 0 := by omega
            have hMb : M < 18446744073709551616 := by
              rw [← hM]
              exact Nat.lt_of_le_of_lt (Nat.mul_le_mul (show gk ≤ 4294967295 by omega) (show nx ≤ 4294967295 by omega)) (by decide)
            have hMi : (gk : Int) * (nx : Int) = (M : Int) := by rw [← hM]; simp
            by_cases hle : M ≤ R
            · have hfin := HI.out.exit HE.out.2.2.2.2.2.2.1 (.inl ⟨hB, by omega⟩)
              have hst := HSET.out gk hfin.1 hfin.2.1 hfin.2.2
              have HST := Lib.hid hst
              have hgt : decide ((R : Int) < (M : Int)) = false := by simp; omega
              have hgt' : decide (R < M) = false := by simp; omega
              clear hst hM hR hfin
              go_wp2_with fail
              refine HST.out.mono ?_
              rintro e w5 ⟨⟨ve, rfl⟩, H5⟩
              go_wp2_with fail
              go_roundg j
              case rel => exact ⟨rfl, by omega, H5⟩
              all_goals omega
            · obtain ⟨hd1, hIn⟩ := HI.out.down HE.out.2.2.2.2.2.2.1 (.inr (by omega))
              obtain ⟨d', hd'⟩ : ∃ d, gk - 1 = d := ⟨_, rfl⟩
              rw [hd'] at hIn
              obtain ⟨r2, hr2⟩ : ∃ d, r + ld1 = d := ⟨_, rfl⟩
              rw [hr2] at hIn
              have hdi : (gk : Int) - 1 = (d' : Int) := by omega
              have hri : (r : Int) + (ld1 : Int) = (r2 : Int) := by omega
              have hdlt : d' < gk := by omega
              have hr2b : r2 < 8589934592 := by omega
              have HIN := Lib.hid hIn
              have hgt : (R : Int) < (M : Int) := by omega
              have hgt' : R < M := by omega
              by_cases hover : r2 < 4294967296
              · have hs2 : (r2 : Int) / 4294967296 = 0 := by omega
                clear hIn hd' hr2 hM hR
                go_wp2_with fail
                go_roundg d'
                case rel => exact ⟨r2, rfl, rfl, hover, by omega, HIN, rfl⟩
                all_goals omega
              · have hs2 : (r2 : Int) / 4294967296 = 1 := by omega
                have hfin := hIn.exit HE.out.2.2.2.2.2.2.1 (.inr (by omega))
                have hst := HSET.out d' hfin.1 hfin.2.1 hfin.2.2
                have HST := Lib.hid hst
                clear hIn hd' hr2 hM hR hst hfin
                go_wp2_with fail
                refine HST.out.mono ?_
                rintro e w5 ⟨⟨ve, rfl⟩, H5⟩
                go_wp2_with fail
                go_roundg j
                case rel => exact ⟨rfl, by omega, H5⟩
                all_goals omega
          · obtain ⟨hd1, hIn⟩ := HI.out.down HE.out.2.2.2.2.2.2.1 (.inl (by omega))
            obtain ⟨d', hd'⟩ : ∃ d, gk - 1 = d := ⟨_, rfl⟩
            rw [hd'] at hIn
            obtain ⟨r2, hr2⟩ : ∃ d, r + ld1 = d := ⟨_, rfl⟩
            rw [hr2] at hIn
            have hdi : (gk : Int) - 1 = (d' : Int) := by omega
            have hri : (r : Int) + (ld1 : Int) = (r2 : Int) := by omega
            have hdlt : d' < gk := by omega
            have hr2b : r2 < 8589934592 := by omega
            have HIN := Lib.hid hIn
            obtain ⟨hq, hhq⟩ : ∃ d, gk / 4294967296 = d := ⟨_, rfl⟩
            have hsh : (gk : Int) / 4294967296 = (hq : Int) := by omega
            have hne : ((hq : Int) != 0) = true := by simp; omega
            have hq0 : ¬ hq = 0 := by omega
            clear hhq
            by_cases hover : r2 < 4294967296
            · have hs2 : (r2 : Int) / 4294967296 = 0 := by omega
              clear hIn hd' hr2 hM hR
              go_wp2_with fail
              go_roundg d'
              case rel => exact ⟨r2, rfl, rfl, hover, by omega, HIN, rfl⟩
              all_goals omega
            · have hs2 : (r2 : Int) / 4294967296 = 1 := by omega
              have hfin := hIn.exit HE.out.2.2.2.2.2.2.1 (.inr (by omega))
              have hst := HSET.out d' hfin.1 hfin.2.1 hfin.2.2
              have HST := Lib.hid hst
              clear hIn hd' hr2 hM hR hst hfin
              go_wp2_with fail
              refine HST.out.mono ?_
              rintro e w5 ⟨⟨ve, rfl⟩, H5⟩
              go_wp2_with fail
              go_roundg j
              case rel => exact ⟨rfl, by omega, H5⟩
              all_goals omega

end Go.Proofs.YtmpkaimhjdkheaaGreatDoor

namespace Go.Proofs.YtmpkaimhjdkheaaGreatDoor
set_option linter.unusedVariables false
open Go.RowKit Go.Mem Go.Dig Go.Pure

set_option maxRecDepth 100000 in
set_option maxHeartbeats 1000000 in
theorem divMag_lt (A : Option Addr) (n c : Nat) (A' : Option Addr) (n' c' : Nat) (x y : Nat) (w : World) (hx : WM w A n c x) (hy : WM w A' n' c' y) (hlt : x < y) :
    Calls Tryz.prog 56 #[.slice A n c, .slice A' n' c'] w fun e w' => ∃ Q nq cq R nr cr, e = .returned (.tuple #[.slice Q nq cq, .slice R nr cr]) ∧ Hid (WM w' Q nq cq (x / y) ∧ WM w' R nr cr (x % y) ∧ New w w') := by
  have hcm := cmpMag_any A n c A' n' c' x y w hx hy
  rw [cmpI_lt (by omega)] at hcm
  have HC := Lib.hid (And.intro hcm hx)
  clear hcm hx hy
  go_enter Tryz.func56, Tryz.ntmps56
  go_wp2_with fail
  go_step3
  go_wp2_with fail
  refine HC.out.1.mono ?_
  rintro e w1 ⟨rfl, q1, hq1⟩
  have HN : Hid (New w w1) := by rw [hq1]; exact (Chg.refl _ _).drewN q1
  clear hq1
  go_wp2_with fail
  (try rw [Exit.noGoto_ret])
  go_ret2
  exact ⟨_, _, _, _, _, _, rfl, by rw [Nat.div_eq_of_lt hlt]; exact WM.zero _, by rw [Nat.mod_eq_of_lt hlt]; exact HC.out.2.new HN.out, HN.out⟩

set_option maxRecDepth 100000 in
set_option maxHeartbeats 1000000 in
theorem divMag_one (A : Option Addr) (n c : Nat) (A' : Option Addr) (c' : Nat) (x y : Nat) (w : World) (hx : WM w A n c x) (hy : WM w A' 1 c' y) (hn : n ≤ 900000) (hle : y ≤ x) :
    Calls Tryz.prog 56 #[.slice A n c, .slice A' 1 c'] w fun e w' => ∃ Q nq cq R nr cr, e = .returned (.tuple #[.slice Q nq cq, .slice R nr cr]) ∧ Hid (WM w' Q nq cq (x / y) ∧ WM w' R nr cr (x % y) ∧ New w w') := by
  have hcm := cmpMag_any A n c A' 1 c' x y w hx hy
  obtain ⟨lb, hb, hd1, hd2, hNb⟩ := hy
  have hlb : lb.length = 1 := by have := hb.len; rwa [nv_length] at this
  obtain ⟨bd, u, rfl, hu, hcu⟩ := hb.at_ (show 0 < 1 by omega)
  obtain ⟨z, hz, rfl⟩ := nv_at hu
  have hzy : z = y := by
    obtain ⟨d, rfl⟩ := List.length_eq_one_iff.1 hlb
    have := hNb.val
    simp [val_cons, val_nil] at this hz
    omega
  subst hzy
  have hz1 : 1 ≤ z := by
    have := top_pos hNb hlb (by omega)
    rw [show 1 - 1 = 0 by rfl, dg_some hz] at this
    exact this
  have hzb : z < 4294967296 := hNb.digs.at_ hz
  have hcv : decide (cmpI (x : Int) (z : Int) < 0) = false := by
    unfold cmpI
    rw [if_neg (by omega)]
    split <;> decide
  generalize cmpI (x : Int) (z : Int) = cv at *
  have HC := Lib.hid (And.intro hcm hx)
  rw [show bd.add 0 = bd by simp [Addr.add]] at hcu
  clear hcm hx hb hNb hlb hu hz
  go_enter Tryz.func56, Tryz.ntmps56
  go_wp2_with fail
  go_step3
  go_wp2_with fail
  refine HC.out.1.mono ?_
  rintro e w1 ⟨rfl, q1, hq1⟩
  have hn1 : New w w1 := by rw [hq1]; exact (Chg.refl _ _).drewN q1
  have hcu1 := hn1.cell hcu (fun h => h)
  have HN := Lib.hid hn1
  clear hq1 hn1 hcu
  go_wp2_with fail
  refine (divWord_any A n c x z w1 (HC.out.2.new HN.out) (by omega) hz1 hzb).mono ?_
  rintro e w2 ⟨l, g, rfl, H2⟩
  clear hcu1
  obtain ⟨r, hr⟩ : ∃ r, x % z = r := ⟨_, rfl⟩
  rw [hr]
  have hrb : r < 4294967296 := by rw [← hr]; exact Nat.lt_trans (Nat.mod_lt _ (by omega)) hzb
  have HR := Lib.hid hr
  clear hr
  go_wp2_with fail
  refine (trim_wm _ _ _ l w2 H2.out.1 H2.out.2.1 (Nat.le_refl _) (by omega)).mono ?_
  rintro e w3 ⟨T1, rfl, HT1, rfl⟩
  go_wp2_with fail
  refine Calls.new1 ?_
  intro W3 b3 hn3 hz3
  have hr3 : Rd W3 (some ⟨w2.heap.size, 0, none⟩) 1 (nv .u32 [r]) := ⟨rfl, fun _ => ⟨_, rfl, fun j u hu => by
    match j, hu with
    | 0, hu =>
      simp [nv] at hu
      subst hu
      rw [Addr.add_lit]
      exact b3.cell 0 rfl⟩⟩
  refine (trim_wm _ _ _ [r] W3 hr3 (Digs.cons hrb (Digs.nil _)) (Nat.le_refl _) (by omega)).mono ?_
  rintro e w4 ⟨T2, rfl, HT2, rfl⟩
  have HF := Lib.hid hn3
  clear hr3 b3 hn3 hz3
  go_wp2_with fail
  (try rw [Exit.noGoto_ret])
  go_ret2
  refine ⟨_, _, _, _, _, _, rfl, ?_, ?_, ?_⟩
  · have := HT1.out.1.new HF.out
    rwa [H2.out.2.2.1] at this
  · have := HT2.out.1
    rw [show val 4294967296 [r] = r by simp [val_cons, val_nil]] at this
    rwa [← HR.out] at this
  · exact (HN.out.new H2.out.2.2.2.2).new HF.out

theorem divMag_any (A : Option Addr) (n c : Nat) (A' : Option Addr) (n' c' : Nat) (x y : Nat) (w : World) (hx : WM w A n c x) (hy : WM w A' n' c' y) (hn : n ≤ 900000) (hy1 : 1 ≤ y) :
    Calls Tryz.prog 56 #[.slice A n c, .slice A' n' c'] w fun e w' => ∃ Q nq cq R nr cr, e = .returned (.tuple #[.slice Q nq cq, .slice R nr cr]) ∧ Hid (WM w' Q nq cq (x / y) ∧ WM w' R nr cr (x % y) ∧ New w w') := by
  rcases Nat.lt_or_ge x y with h | h
  · exact divMag_lt A n c A' n' c' x y w hx hy h
  · rcases (show n' = 0 ∨ n' = 1 ∨ 2 ≤ n' by omega) with h0 | h0 | h0
    · have := (hy.pos).1 h0; omega
    · subst h0; exact divMag_one A n c A' c' x y w hx hy hn h
    · exact divMag_long A n c A' n' c' x y w hx hy hn h0 h
end Go.Proofs.YtmpkaimhjdkheaaGreatDoor

namespace Go.Proofs.YtmpkaimhjdkheaaGreatDoor
set_option linter.unusedVariables false
open Go.RowKit Go.Mem Go.Dig

set_option maxRecDepth 100000 in
set_option maxHeartbeats 4000000 in
theorem rmul_dm (s s' : Bool) (A : Option Addr) (n c : Nat) (A' : Option Addr) (n' c' : Nat) (x y : Nat) (w : World) (hx : DM w A n c x) (hy : DM w A' n' c' y) (hn : n ≤ 1000000) (hn' : n' ≤ 1000000) :
    Calls Tryz.prog 10 #[.agg #[.bool s, .slice A n c], .agg #[.bool s', .slice A' n' c']] w fun e w' => ∃ v, e = .returned v ∧ RN w' v (sg (s != s') (x * y : Nat)) ∧ New w w' := by
  obtain ⟨la, ha, hc1, hc2, hNa⟩ := hx
  obtain ⟨lb, hb, hd1, hd2, hNb⟩ := hy
  have hla : la.length = n := by have := ha.len; rwa [nv_length] at this
  have hlb : lb.length = n' := by have := hb.len; rwa [nv_length] at this
  have H0 := Lib.hid (And.intro ha (And.intro hb (And.intro hNa (And.intro hNb (And.intro hla hlb)))))
  clear ha hb hNa hNb hla hlb
  go_enter Tryz.func10, Tryz.ntmps10
  go_wp2_with (at_make; refine wpList_mk elemInts rfl rfl _ _ rfl (n := n + n') rfl rfl (by omega) (by omega) (by omega) (by simp only [maxLen]; omega) ?_; intro w1 hown hg hz; have HMK := Lib.hid (And.intro hown (And.intro hg hz)); clear hown hg hz)
  obtain ⟨ho, hg, hz⟩ := HMK.out
  simp only [World.size_alloc] at ho hz
  have hB1 : Blk w1 w.heap.size 26 #[.bool s, .slice A n c] := (((Blk.new w _ _).alloc _).alloc _).chg hg (fun h => h)
  have hB2 : Blk w1 (w.heap.size + 1) 26 #[.bool s', .slice A' n' c'] := by
    have := ((Blk.new (w.alloc (.cells #[.bool s, .slice A n c] 26)) 26 #[.bool s', .slice A' n' c']).alloc (.cells #[.bool false, .slice none 0 0] 26)).chg hg (fun h => h)
    rwa [World.size_alloc] at this
  have hB3 : Blk w1 (w.heap.size + 1 + 1) 26 #[.bool false, .slice none 0 0] := by
    have := (Blk.new ((w.alloc (.cells #[.bool s, .slice A n c] 26)).alloc (.cells #[.bool s', .slice A' n' c'] 26)) 26 #[.bool false, .slice none 0 0]).chg hg (fun h => h)
    rwa [World.size_alloc, World.size_alloc] at this
  have hnw : New w w1 := ((((Chg.refl _ w).alloc _).alloc _).alloc _).new hg
  rw [show List.replicate (n + n') (Value.int .i64 0) = nv .i64 (List.replicate (n + n') 0) by simp [nv]] at ho
  obtain ⟨g, hgq⟩ : ∃ g, w.heap.size + 1 + 1 + 1 = g := ⟨_, rfl⟩
  rw [hgq] at ho
  have hgb : w.heap.size + 1 + 1 < g := by omega
  have HW := Lib.hid (And.intro hB1 (And.intro hB2 (And.intro hB3 (And.intro hnw ho))))
  simp only [hgq]
  clear hgq hB1 hB2 hB3 hnw ho hg hz HMK
  go_loopw [6] (fun i wr => ∃ k : Nat, ∃ o, i = .int .i64 k ∧ k ≤ n ∧ Hid (MulI 10000 la lb k 0 o 0 ∧ wr.ownsRow g 3 1 (.slice (some ⟨g, 0, none⟩) (n + n') (n + n')) (n + n') (nv .i64 o) ∧ Chg (fun j => j = g) w1 wr)) (fun i _ => n - (intOf i).toNat)
  case atStart =>
    obtain ⟨ha, hb, hNa, hNb, hla, hlb⟩ := H0.out
    refine ⟨0, List.replicate (n + n') 0, rfl, by omega, ?_, HW.out.2.2.2.2, Chg.refl _ _⟩
    have := MulI.start (B := 10000) (by omega) la lb
    rwa [hla, hlb] at this
  case round =>
    obtain ⟨i, o, rfl, hi, HO⟩ := hrel
    obtain ⟨hB1, hB2, hB3, hnw, _⟩ := HW.out
    have hC1 := hB1.chg HO.out.2.2 (by omega)
    have hC2 := hB2.chg HO.out.2.2 (by omega)
    have hC3 := hB3.chg HO.out.2.2 (by omega)
    have hc10 := hC1.cell 0 (u := .bool s) rfl
    have hc11 := hC1.cell 1 (u := .slice A n c) rfl
    have hc20 := hC2.cell 0 (u := .bool s') rfl
    have hc21 := hC2.cell 1 (u := .slice A' n' c') rfl
    by_cases hlt : i < n
    · clear hB1 hB2 hB3 hnw hC1 hC2 hC3
      go_wp2_with fail
      go_loopw [7, 8] (fun u v wr => ∃ k cr : Nat, ∃ o, u = .int .i64 cr ∧ v = .int .i64 k ∧ k ≤ n' ∧ cr < 10000 ∧ Hid (MulI 10000 la lb i k o cr ∧ wr.ownsRow g 3 1 (.slice (some ⟨g, 0, none⟩) (n + n') (n + n')) (n + n') (nv .i64 o) ∧ Chg (fun j => j = g) w1 wr)) (fun _ v _ => n' - (intOf v).toNat)
      case atStart => exact ⟨0, 0, o, rfl, rfl, by omega, by omega, HO.out⟩
      case round =>
        obtain ⟨wo, rfl⟩ : ∃ wo : World, wo = wr := ⟨_, rfl⟩
        obtain ⟨k, cr, o, rfl, rfl, hk, hcr, HI⟩ := hrel
        obtain ⟨hB1, hB2, hB3, hnw, _⟩ := HW.out
        have hC1 := hB1.chg HI.out.2.2 (by omega)
        have hC2 := hB2.chg HI.out.2.2 (by omega)
        have hc11 := hC1.cell 1 (u := .slice A n c) rfl
        have hc21 := hC2.cell 1 (u := .slice A' n' c') rfl
        clear hB1 hB2 hB3 hnw hC1 hC2
        by_cases hlk : k < n'
        · obtain ⟨ha, hb, hNa, hNb, hla, hlb⟩ := H0.out
          have hchg : Chg (fun j => j = g) w wo := (HW.out.2.2.2.1.mono (fun _ _ h => h.elim)).trans HI.out.2.2 (fun _ _ h => h)
          obtain ⟨ad, u, rfl, hu, hcu⟩ := (ha.chg hchg (fun k _ h e => by omega)).at_ hlt
          obtain ⟨bd, v, rfl, hv, hcv⟩ := (hb.chg hchg (fun k _ h e => by omega)).at_ hlk
          obtain ⟨p, hp, rfl⟩ := nv_at hu
          obtain ⟨r, hr, rfl⟩ := nv_at hv
          have hol : o.length = n + n' := by rw [HI.out.1.len, hla, hlb]
          obtain ⟨d, hd⟩ : ∃ d, o[i + k]? = some d := ⟨_, List.getElem?_eq_getElem (by omega)⟩
          have hcd := own_cell HI.out.2.1 (i := i + k) (u := .int .i64 (d : Nat)) (by rw [nv, List.getElem?_map, hd]; rfl)
          have hdb := HI.out.1.digs.at_ hd
          have hpb := hNa.digs.at_ hp
          have hrb := hNb.digs.at_ hr
          have hst := HI.out.1.step (by omega) hNa.digs hNb.digs (by omega) hd
          rw [dg_some hp, dg_some hr] at hst
          obtain ⟨gg, hgg, _, hgs, hfz⟩ := own_form HI.out.2.1 (by omega)
          have hgg' : g = gg := by simpa using hgg
          subst hgg'
          have hf := hfz (i + k)
          obtain ⟨m, hm⟩ : ∃ m, p * r = m := ⟨_, rfl⟩
          have hmb : m ≤ 99980001 := by
            rw [← hm]
            exact Nat.le_trans (Nat.mul_le_mul (show p ≤ 9999 by omega) (show r ≤ 9999 by omega)) (by decide)
          have hmi : (p : Int) * (r : Int) = (m : Int) := by rw [← hm]; simp
          rw [hm] at hst
          obtain ⟨v, hv⟩ : ∃ v, d + m + cr = v := ⟨_, rfl⟩
          rw [hv] at hst
          have hvi : (d : Int) + (m : Int) + (cr : Int) = (v : Int) := by omega
          have hvb : v ≤ 100000000 := by omega
          have HS := Lib.hid hst
          have hik : (i : Int) + (k : Int) < (n : Int) + (n' : Int) := by omega
          clear ha hb hNa hNb hla hlb hchg hu hv hp hr hol hd hdb hpb hrb hst hgg hfz hm
          go_wp2
          go_quiet (fail)
          go_wp2
          go_roundw
          case rel =>
            have ho2 := own_chg HI.out.2.1 ((Chg.refl (fun _ => False) wo).drewN nq) (fun _ _ h => h)
            have ho3 := own_set ho2 (i + k) (.int .i64 ((v % 10000 : Nat) : Int)) (by omega)
            rw [nv_set] at ho3
            refine ⟨k + 1, v / 10000, o.set (i + k) (v % 10000), congrArg (Value.int .i64) (by omega), by go_num, by omega, HS.out.1, HS.out.2, ?_, ?_⟩
            · rw [show ((v : Int) % 10000) = ((v % 10000 : Nat) : Int) by omega]; exact ho3
            · exact (HI.out.2.2.drewN nq).setCell (fun _ => rfl) _
          case measure => simp [intOf]; omega
        · obtain rfl : n' = k := by omega
          obtain ⟨ha, hb, hNa, hNb, hla, hlb⟩ := H0.out
          have hol : o.length = n + n' := by rw [HI.out.1.len, hla, hlb]
          obtain ⟨d, hd⟩ : ∃ d, o[i + n']? = some d := ⟨_, List.getElem?_eq_getElem (by omega)⟩
          have hcd := own_cell HI.out.2.1 (i := i + n') (u := .int .i64 (d : Nat)) (by rw [nv, List.getElem?_map, hd]; rfl)
          obtain ⟨gg, hgg, _, hgs, hfz⟩ := own_form HI.out.2.1 (by omega)
          have hgg' : g = gg := by simpa using hgg
          subst hgg'
          have hf := hfz (i + n')
          have hrow : MulI 10000 la lb (i + 1) 0 (o.set (i + n') cr) 0 := by
            have := HI.out.1
            rw [← hlb] at this ⊢
            exact this.row (by omega) (by omega)
          have HS := Lib.hid hrow
          have hik : (i : Int) + (n' : Int) < (n : Int) + (n' : Int) := by omega
          clear ha hb hNa hNb hla hlb hol hd hrow hgg hfz
          go_wp2
          go_roundw
          case rel =>
            have ho3 := own_set HI.out.2.1 (i + n') (.int .i64 (cr : Int)) (by omega)
            rw [nv_set] at ho3
            refine ⟨i + 1, o.set (i + n') cr, by go_num, by omega, HS.out, ho3, ?_⟩
            exact HI.out.2.2.setCell (fun _ => rfl) _
          case measure => simp [intOf]; omega
    · obtain rfl : n = i := by omega
      have HC3 := Lib.hid hC3
      clear hB1 hB2 hB3 hnw hC1 hC2 hC3
      go_wp2_with fail
      obtain ⟨ha, hb, hNa, hNb, hla, hlb⟩ := H0.out
      have hval : val 10000 o = x * y := by
        have := HO.out.1
        rw [← hla] at this
        rw [this.done (i := 0) (c := 0), hNa.val, hNb.val]
      have hn1 : New w wr := HW.out.2.2.2.1.trans HO.out.2.2 (fun j hj e => by omega)
      refine (normal_rn (s != s') _ (n + n') (n + n') o wr (Rd.of_own HO.out.2.1) HO.out.1.digs (Nat.le_refl _) (by omega)).mono ?_
      rintro e w2 ⟨v2, rfl, ⟨s2, A2, n2, c2, rfl, hs2, hm2⟩, hn2⟩
      rw [hval] at hs2 hm2
      have hb2 := HC3.out.chg hn2 (fun h => h)
      have hk0 := hb2.cell 0 (u := .bool false) rfl
      have hk1 := hb2.cell 1 (u := .slice none 0 0) rfl
      have hf0 := hb2.frozen 0
      have hf1 := hb2.frozen 1
      have H2 := Lib.hid (And.intro hb2 (And.intro (hn1.new hn2) (And.intro hs2 hm2)))
      clear ha hb hNa hNb hla hlb hval hn1 hs2 hm2 hn2 hb2 HC3
      go_wp2
      obtain ⟨hb2, hn2, hs2, hm2⟩ := H2.out
      refine bodyPost_ret (res_c rfl _ rfl (aggN.load (hb2.set2 _ _))) rfl ⟨_, rfl, ⟨s2, A2, n2, c2, rfl, hs2, hm2.store hb2 (noInt_two' _ _ _ _) (Chg.at2 _ _ _ _)⟩, ?_⟩
      exact Chg.owned hn2 (Chg.at2 _ _ _ _) (fun k e => by omega)

theorem sg_mul' (s t : Bool) (a b : Nat) : sg (s != t) (a * b : Nat) = sg s a * sg t b := by
  cases s <;> cases t <;> simp [sg, Int.neg_mul, Int.mul_neg]
theorem sg_mul (x y : Int) : sg (decide (x < 0) != decide (y < 0)) (x.natAbs * y.natAbs : Nat) = x * y := by
  rw [sg_mul', sg_of, sg_of]
theorem rmul_any (v v' : Value) (x y : Int) (w : World) (hx : RN w v x) (hy : RN w v' y) (bx : x.natAbs < 2 ^ 1000000) (bY : y.natAbs < 2 ^ 1000000) :
    Calls Tryz.prog 10 #[v, v'] w fun e w' => ∃ v, e = .returned v ∧ RN w' v (x * y) ∧ New w w' := by
  obtain ⟨s, A, n, c, rfl, hs, hm⟩ := hx
  obtain ⟨s', A', n', c', rfl, hs', hm'⟩ := hy
  have hn := bz_len hm bx
  have hn' := bz_len hm' bY
  refine (rmul_dm s s' A n c A' n' c' _ _ w hm hm' hn hn').mono ?_
  rw [hs, hs', sg_mul]
  rintro e w1 h
  exact h
end Go.Proofs.YtmpkaimhjdkheaaGreatDoor

namespace Go.Proofs.YtmpkaimhjdkheaaGreatDoor
set_option linter.unusedVariables false
open Go.RowKit Go.Mem Go.Dig

theorem DM.chg {S : Nat → Prop} {w w' : World} {A : Option Addr} {n c m : Nat} (h : DM w A n c m) (hc : Chg S w w') (hs : ∀ k, blk A = some k → ¬ S k) : DM w' A n c m := by
  obtain ⟨l, h1, h2⟩ := h
  exact ⟨l, h1.chg hc (fun k hk _ => hs k hk), h2⟩
theorem DM.old {w w' : World} {A : Option Addr} {n c m g : Nat} (h : DM w A n c m) (hc : Chg (fun k => k = g) w w') (hg : w.heap.size ≤ g) : DM w' A n c m := by
  obtain ⟨l, h1, h2⟩ := h
  exact ⟨l, h1.chg hc (fun k _ hk e => by omega), h2⟩
/-- normal of digits without a sign: the same address. -/
theorem normal_dm (A : Option Addr) (n c : Nat) (l : List Nat) (w : World) (hr : Rd w A n (nv .i64 l)) (hd : Digs 10000 l) (hnc : n ≤ c) (hc : c ≤ 9223372036854775807) :
    Calls Tryz.prog 20 #[.bool false, .slice A n c] w fun e w' => ∃ T, e = .returned (.agg #[.bool false, .slice A T c]) ∧ DM w' A T c (val 10000 l) ∧ T ≤ n ∧ New w w' := by
  refine (normal_any false A n c l w hr hnc hc).mono ?_
  rintro e w' ⟨rfl, hn⟩
  have hll : l.length = n := by have := hr.len; rwa [nv_length] at this
  have hlen := trim_len l
  refine ⟨(Dig.trim l).length, by rw [Bool.false_and], ⟨Dig.trim l, ?_, by omega, hc, Num.of_trim hd⟩, by omega, hn⟩
  have := (hr.new hn).take (k := (Dig.trim l).length) (by omega)
  rwa [nv_take, ← trim_take] at this

set_option maxHeartbeats 1000000 in
theorem small_any (A : Option Addr) (n c x k : Nat) (w : World) (hx : DM w A n c x) (hn : n ≤ 1000000) (hk : k ≤ 9999) :
    Calls Tryz.prog 108 #[.slice A n c, .int .i64 k] w fun e w' => ∃ R m d, e = .returned (.slice R m d) ∧ DM w' R m d (x * k) ∧ New w w' := by
  have HX := Lib.hid hx
  clear hx
  go_enter Tryz.func108, Tryz.ntmps108
  go_wp2_with fail
  refine (of_any (k : Int) w (by omega) (by omega)).mono ?_
  rintro e w1 ⟨v1, rfl, ⟨s1, A1, n1, c1, rfl, hs1, hm1⟩, hn1⟩
  rw [show s1 = false by rw [hs1]; simp]
  have hn1l : n1 ≤ 1000000 := by
    have := hm1.len (k := 1) (by rw [Int.natAbs_natCast, Nat.pow_one]; omega)
    omega
  have H1 := Lib.hid (And.intro hm1 hn1)
  clear hs1 hm1 hn1
  go_wp2_with fail
  refine (rmul_dm false false A n c A1 n1 c1 x _ w1 (HX.out.new H1.out.2) H1.out.1 hn hn1l).mono ?_
  rintro e w2 ⟨v2, rfl, ⟨s2, A2, n2, c2, rfl, hs2, hm2⟩, hn2⟩
  rw [sg_abs, Int.natAbs_natCast] at hm2
  have H2 := Lib.hid (And.intro hm2 (H1.out.2.new hn2))
  clear hs2 hm2 hn2 H1
  go_wp2
  go_ret
  exact ⟨A2, n2, c2, rfl, H2.out.1.new ((Chg.refl _ _).alloc _), H2.out.2.alloc _⟩

set_option maxHeartbeats 1000000 in
theorem digits_any (A : Option Addr) (n c : Nat) (l : List Nat) (i : Int) (w : World) (hr : Rd w A n (nv .i64 l)) (hn : n ≤ 9223372036854775807) :
    Calls Tryz.prog 120 #[.slice A n c, .int .i64 i] w fun e w' => e = .returned (.int .i64 (dgI l i)) ∧ w = w' := by
  have hl : l.length = n := by have := hr.len; rwa [nv_length] at this
  by_cases h : i < 0
  · rw [dgI_neg h]
    clear hr hl
    go_enter Tryz.func120, Tryz.ntmps120
    go_wp2
    go_ret
    exact ⟨rfl, rfl⟩
  · obtain ⟨k, rfl⟩ : ∃ k : Nat, i = (k : Int) := ⟨i.toNat, by omega⟩
    rw [dgI_nat]
    have hng : decide ((k : Int) < 0) = false := by simp
    by_cases h1 : k < n
    · obtain ⟨ad, u, rfl, hu, hcu⟩ := hr.at_ h1
      obtain ⟨z, hz, rfl⟩ := nv_at hu
      rw [dg_some hz]
      have hlt : decide ((n : Int) ≤ (k : Int)) = false := by simp; omega
      have hlt' : decide (n ≤ k) = false := by simp; omega
      clear hr hl hu hz
      go_enter Tryz.func120, Tryz.ntmps120
      go_wp2
      go_ret
      exact ⟨rfl, rfl⟩
    · rw [dg_none (by omega)]
      have hlt : decide ((n : Int) ≤ (k : Int)) = true := by simp; omega
      have hlt' : decide (n ≤ k) = true := by simp; omega
      clear hr hl
      go_enter Tryz.func120, Tryz.ntmps120
      go_wp2
      go_ret
      exact ⟨rfl, rfl⟩

theorem min_9999 (P : Program) (y : Nat) : ∃ m : Nat, ((9999 ≤ y ∧ m = 9999) ∨ (y ≤ 9999 ∧ m = y)) ∧ ∀ ts t W, (Builtin.min_ ts t #[.int .i64 9999, .int .i64 (y : Int)]).run P W = .ok (.int .i64 (m : Int)) W := by
  rcases Nat.le_total 9999 y with h | h
  · exact ⟨9999, .inl ⟨h, rfl⟩, fun ts t W => run_min2 _ _ _ (.inl ⟨by omega, rfl⟩) ts t W⟩
  · exact ⟨y, .inr ⟨h, rfl⟩, fun ts t W => run_min2 _ _ _ (.inr ⟨by omega, rfl⟩) ts t W⟩
set_option maxRecDepth 100000 in
set_option maxHeartbeats 2000000 in
theorem digit_any (A : Option Addr) (n c : Nat) (A' : Option Addr) (n' c' : Nat) (X Y : Nat) (w : World) (hx : DM w A n c X) (hy : DM w A' n' c' Y) (hY : 1 ≤ Y) (hlt : X < 10000 * Y) :
    Calls Tryz.prog 107 #[.slice A n c, .slice A' n' c'] w fun e w' => ∃ lo hi : Nat, e = .returned (.tuple #[.int .i64 lo, .int .i64 hi]) ∧ (lo ≤ X / Y ∧ X / Y ≤ hi ∧ hi ≤ 9999) ∧ New w w' := by
  have hq9 : X / Y ≤ 9999 := by
    have : X / Y < 10000 := by rw [Nat.div_lt_iff_lt_mul (by omega)]; exact hlt
    omega
  obtain ⟨la, ha, hc1, hc2, hNa⟩ := hx
  obtain ⟨lb, hb, hd1, hd2, hNb⟩ := hy
  have hla : la.length = n := by have := ha.len; rwa [nv_length] at this
  have hlb : lb.length = n' := by have := hb.len; rwa [nv_length] at this
  have hn1 : 1 ≤ n' := by
    rcases Nat.eq_zero_or_pos n' with h | h
    · have := (hNb.nil_iff (by omega)).1 (List.eq_nil_of_length_eq_zero (by omega)); omega
    · exact h
  by_cases hs : n < n'
  · have h0 : X / Y = 0 := Nat.div_eq_of_lt (hNa.len_lt (by omega) hNb (by omega))
    have hsi : (n : Int) < (n' : Int) := by omega
    have H := Lib.hid h0
    clear ha hb hNa hNb hla hlb h0 hq9
    go_enter Tryz.func107, Tryz.ntmps107
    go_wp2
    go_ret2
    exact ⟨0, 0, rfl, ⟨Nat.zero_le _, by rw [H.out]; exact Nat.le_refl _, by omega⟩, Chg.refl _ _⟩
  · obtain ⟨hD, hlo, hhi⟩ := digit_bounds hNa hNb hY hlt
    rw [hlb] at hD hlo hhi
    have b1 := dgI_lt hNa.digs (by omega) (n' : Int)
    have b2 := dgI_lt hNa.digs (by omega) ((n' : Int) - 1)
    have b3 := dgI_lt hNa.digs (by omega) ((n' : Int) - 2)
    have b4 := dgI_lt hNb.digs (by omega) ((n' : Int) - 1)
    have b5 := dgI_lt hNb.digs (by omega) ((n' : Int) - 2)
    have f1 := fun W (h : Rd W A n (nv .i64 la)) => digits_any A n c la (n' : Int) W h (by omega)
    have f2 := fun W (h : Rd W A n (nv .i64 la)) => digits_any A n c la ((n' : Int) - 1) W h (by omega)
    have f3 := fun W (h : Rd W A n (nv .i64 la)) => digits_any A n c la ((n' : Int) - 2) W h (by omega)
    have f4 := fun W (h : Rd W A' n' (nv .i64 lb)) => digits_any A' n' c' lb ((n' : Int) - 1) W h (by omega)
    have f5 := fun W (h : Rd W A' n' (nv .i64 lb)) => digits_any A' n' c' lb ((n' : Int) - 2) W h (by omega)
    unfold upperD lowerD at hlo hhi
    unfold lowerD at hD
    generalize dgI la (n' : Int) = d1 at *
    generalize dgI la ((n' : Int) - 1) = d2 at *
    generalize dgI la ((n' : Int) - 2) = d3 at *
    generalize dgI lb ((n' : Int) - 1) = d4 at *
    generalize dgI lb ((n' : Int) - 2) = d5 at *
    obtain ⟨U, hU⟩ : ∃ U, 10000 * (10000 * d1 + d2) + d3 = U := ⟨_, rfl⟩
    obtain ⟨D, hDq⟩ : ∃ D, 10000 * d4 + d5 = D := ⟨_, rfl⟩
    rw [hU, hDq] at hlo hhi
    rw [hDq] at hD
    have hUi : (10000 : Int) * (10000 * (d1 : Int) + (d2 : Int)) + (d3 : Int) = (U : Int) := by omega
    have hDi : (10000 : Int) * (d4 : Int) + (d5 : Int) = (D : Int) := by omega
    have hUb : U ≤ 1000000000000 := by omega
    have hDb : D ≤ 100000000 := by omega
    obtain ⟨mlo, hmlo, hmin1⟩ := min_9999 Tryz.prog (U / (D + 1))
    obtain ⟨mhi, hmhi, hmin2⟩ := min_9999 Tryz.prog (U / D)
    have hge : decide ((n : Int) < (n' : Int)) = false := by simp; omega
    have hge' : decide (n < n') = false := by simp; omega
    have hnz : ((n' : Int) == 0) = false := by simp; omega
    have HF := Lib.hid (And.intro f1 (And.intro f2 (And.intro f3 (And.intro f4 f5))))
    have HR := Lib.hid (And.intro ha (And.intro hb (And.intro hmlo (And.intro hmhi (And.intro hlo (And.intro hhi hq9))))))
    clear f1 f2 f3 f4 f5 ha hb hmlo hmhi hlo hhi hq9 hNa hNb hla hlb hU hDq hlt
    go_enter Tryz.func107, Tryz.ntmps107
    go_wp2_with fail
    refine (HF.out.1 w HR.out.1).mono ?_
    rintro e w1 ⟨rfl, rfl⟩
    go_wp2_with fail
    refine (HF.out.2.1 w HR.out.1).mono ?_
    rintro e w1 ⟨rfl, rfl⟩
    go_wp2_with fail
    refine (HF.out.2.2.1 w HR.out.1).mono ?_
    rintro e w1 ⟨rfl, rfl⟩
    go_wp2_with fail
    refine (HF.out.2.2.2.1 w HR.out.2.1).mono ?_
    rintro e w1 ⟨rfl, rfl⟩
    go_wp2_with fail
    refine (HF.out.2.2.2.2 w HR.out.2.1).mono ?_
    rintro e w1 ⟨rfl, rfl⟩
    go_wp2_with fail
    have g1 : IntKind.i64.wrap ((D : Int) + 1) = (D : Int) + 1 := IntWalk.i64_in _ (by omega)
    have g2 : ((D : Int) + 1 == 0) = false := by simp; omega
    have g3 : ((D : Int) == 0) = false := by simp; omega
    have g4 : (U : Int).tdiv ((D : Int) + 1) = ((U / (D + 1) : Nat) : Int) := by rw [Int.tdiv_eq_ediv_of_nonneg (by omega)]; simp
    have g5 : (U : Int).tdiv (D : Int) = ((U / D : Nat) : Int) := by rw [Int.tdiv_eq_ediv_of_nonneg (by omega)]; simp
    have g6 : U / (D + 1) ≤ 1000000000000 := Nat.le_trans (Nat.div_le_self _ _) hUb
    have g7 : U / D ≤ 1000000000000 := Nat.le_trans (Nat.div_le_self _ _) hUb
    generalize U / (D + 1) = Q1 at *
    generalize U / D = Q2 at *
    have g8 : IntKind.i64.wrap (Q1 : Int) = (Q1 : Int) := IntWalk.i64_in _ (by omega)
    have g9 : IntKind.i64.wrap (Q2 : Int) = (Q2 : Int) := IntWalk.i64_in _ (by omega)
    go_quiet (fail)
    go_wp2
    go_ret2
    obtain ⟨_, _, h1, h2, h3, h4, h5⟩ := HR.out
    generalize X / Y = q at *
    exact ⟨mlo, mhi, rfl, ⟨by omega, by omega, by omega⟩, (Chg.refl _ w).drewN nq⟩
end Go.Proofs.YtmpkaimhjdkheaaGreatDoor

namespace Go.Proofs.YtmpkaimhjdkheaaGreatDoor
set_option linter.unusedVariables false
open Go.RowKit Go.Mem

theorem max_ex (P : Program) (x y : Int) : ∃ m, ((x ≤ y ∧ m = y) ∨ (y ≤ x ∧ m = x)) ∧ ∀ ts t W, (Builtin.max_ ts t #[.int .i64 x, .int .i64 y]).run P W = .ok (.int .i64 m) W := by
  rcases Int.le_total x y with h | h
  · exact ⟨y, .inl ⟨h, rfl⟩, fun ts t W => run_max2 _ _ _ (.inl ⟨h, rfl⟩) ts t W⟩
  · exact ⟨x, .inr ⟨h, rfl⟩, fun ts t W => run_max2 _ _ _ (.inr ⟨h, rfl⟩) ts t W⟩

end Go.Proofs.YtmpkaimhjdkheaaGreatDoor

namespace Go.Proofs.YtmpkaimhjdkheaaGreatDoor
set_option linter.unusedVariables false
open Go.RowKit Go.Mem Go.Dig

theorem own_lit {w : World} {cs : Array Value} {e : TypeId} {n : Nat} (h : cs.size = n) (hn : n ≤ maxLen) : (w.alloc (.cells cs e)).ownsRow w.heap.size e 1 (.slice (some ⟨w.heap.size, 0, none⟩) n n) n cs.toList :=
  World.ownsRow_lit (e := e) (size := 1) w cs n (Nat.le_refl _) hn (by rw [Nat.mul_one]; exact h)

/-- What the outer loop holds. -/
def DvI (w1 : World) (g : Nat) (la : List Nat) (y n j : Nat) (R : Option Addr) (m d : Nat) (wr : World) : Prop :=
  ∃ q r, DivI 10000 la y j q r ∧ wr.ownsRow g 3 1 (.slice (some ⟨g, 0, none⟩) n n) n (nv .i64 q) ∧ DM wr R m d r ∧ (0 < m → blk R ≠ some g) ∧ Chg (fun k => k = g) w1 wr

set_option maxRecDepth 100000 in
set_option maxHeartbeats 4000000 in
theorem divided_any (A : Option Addr) (n c : Nat) (A' : Option Addr) (n' c' : Nat) (x y : Nat) (w : World) (hx : DM w A n c x) (hy : DM w A' n' c' y) (hn : n ≤ 1000000) (hn' : n' ≤ 900000) (hy1 : 1 ≤ y) :
    Calls Tryz.prog 88 #[.slice A n c, .slice A' n' c'] w fun e w' => ∃ Q k d R m d', e = .returned (.tuple #[.slice Q k d, .slice R m d']) ∧ OM w' w.heap.size Q k d (x / y) ∧ DM w' R m d' (x % y) ∧ New w w' := by
  have HY := Lib.hid hy
  obtain ⟨la, ha, hc1, hc2, hNa⟩ := hx
  have hla : la.length = n := by have := ha.len; rwa [nv_length] at this
  have hyp : 1 ≤ n' := by
    rcases Nat.eq_zero_or_pos n' with h | h
    · have := hy.pos.1 h; omega
    · exact h
  -- where the division begins
  obtain ⟨m1, hm1, hmin⟩ : ∃ m1 : Int, (((n : Int) ≤ (n : Int) - (n' : Int) + 1 ∧ m1 = n) ∨ ((n : Int) - (n' : Int) + 1 ≤ n ∧ m1 = (n : Int) - (n' : Int) + 1)) ∧ ∀ ts t W, (Builtin.min_ ts t #[.int .i64 (n : Int), .int .i64 ((n : Int) - (n' : Int) + 1)]).run Tryz.prog W = .ok (.int .i64 m1) W := by
    rcases Int.le_total (n : Int) ((n : Int) - (n' : Int) + 1) with h | h
    · exact ⟨_, .inl ⟨h, rfl⟩, fun ts t W => run_min2 _ _ _ (.inl ⟨h, rfl⟩) ts t W⟩
    · exact ⟨_, .inr ⟨h, rfl⟩, fun ts t W => run_min2 _ _ _ (.inr ⟨h, rfl⟩) ts t W⟩
  obtain ⟨m2, hm2, hmax⟩ := max_ex Tryz.prog 0 m1
  obtain ⟨f, hf⟩ : ∃ f : Nat, m2 = (f : Int) := ⟨m2.toNat, by omega⟩
  subst hf
  have hfn : f ≤ n := by omega
  have hfl : n - f < n' := by omega
  have htop : val 10000 (la.drop f) < y := by
    have h1 := hNa.digs.drop f
    obtain ⟨lb, hb, _, _, hNb⟩ := hy
    have hlb : lb.length = n' := by have := hb.len; rwa [nv_length] at this
    have h2 := (Num.of_trim h1).len_lt (by omega) hNb (by have := trim_len (la.drop f); rw [List.length_drop] at this; omega)
    exact h2
  have hcut := fun W => run_cut elemInts .i64 A n c f (f : Int) rfl hfn W
  have H0 := Lib.hid (And.intro ha (And.intro hNa (And.intro hla htop)))
  clear ha hNa hla htop hy hm1 hm2
  go_enter Tryz.func88, Tryz.ntmps88
  go_wp2_with (at_make; refine wpList_mk elemInts rfl rfl _ _ rfl (n := n) rfl rfl rfl rfl (by omega) (by simp only [maxLen]; omega) ?_; intro w1 hown hg hz; have HMK := Lib.hid (And.intro hown (And.intro hg hz)); clear hown hg hz)
  obtain ⟨ha, hNa, hla, htop⟩ := H0.out
  obtain ⟨ho, hg, hz⟩ := HMK.out
  have hr1 : Rd w1 (cutA A c f) (n - f) (nv .i64 (la.drop f)) := by
    have := (ha.new hg).cutA (k := f) hfn hc1
    rwa [nv_drop] at this
  refine (normal_dm (cutA A c f) (n - f) (c - f) (la.drop f) w1 hr1 (hNa.digs.drop f) (by omega) (by omega)).mono ?_
  rintro e w2 ⟨T, rfl, hdm, hT, hn2⟩
  have hbA : 0 < T → blk (cutA A c f) ≠ some w.heap.size := by
    intro hT0
    rw [blk_cutA]
    intro hb
    obtain ⟨ad, u, rfl, _, hcu⟩ := ha.at_ (show 0 < n by omega)
    have h1 := World.block_lt_of_cell? w _ hcu
    rw [block_add] at h1
    simp [blk] at hb
    omega
  rw [show List.replicate n (Value.int .i64 0) = nv .i64 (List.replicate n 0) by simp [nv]] at ho
  obtain ⟨W, hW⟩ : ∃ W, w2.alloc (.cells #[.bool false, .slice (cutA A c f) T (c - f)] 26) = W := ⟨_, rfl⟩
  have hnW : New w2 W := by rw [← hW]; exact (Chg.refl _ w2).alloc _
  have hDv : DvI w1 w.heap.size la y n f (cutA A c f) T (c - f) W := by
    refine ⟨List.replicate n 0, val 10000 (la.drop f), ?_, own_chg ho (hn2.new hnW) (fun _ _ h => h), hdm.new hnW, hbA, (hn2.new hnW).mono (fun _ _ h => h.elim)⟩
    have := DivI.start (B := 10000) (a := la) (by omega) htop
    rwa [hla] at this
  have HI := Lib.hid (And.intro hDv (And.intro hg hz))
  have HWQ := Lib.hid hW
  clear ha hNa hla htop ho hr1 hdm hg hn2 hbA hz HMK hmin hmax hcut hnW hDv hW
  go_wp2_with fail
  rw [HWQ.out]
  clear HWQ
  obtain ⟨g, hgq⟩ : ∃ g, w.heap.size = g := ⟨_, rfl⟩
  rw [hgq] at HI
  have HG := Lib.hid hgq
  simp only [hgq]
  clear hgq
  generalize cutA A c f = R0 at *
  go_loopw [9, 10] (fun v i wr => ∃ j m d : Nat, ∃ R, v = .slice R m d ∧ i = .int .i64 ((j : Int) - 1) ∧ j ≤ f ∧ Hid (DvI w1 g la y n j R m d wr)) (fun _ i _ => (intOf i + 1).toNat)
  case atStart => exact ⟨f, T, c - f, R0, rfl, rfl, Nat.le_refl _, HI.out.1⟩
  case round =>
    obtain ⟨j, m, d, R, rfl, rfl, hj, HD⟩ := hrel
    by_cases h0 : j = 0
    · subst h0
      go_wp2
      go_ret2
      obtain ⟨q, r, hdiv, ho, hdm, _, hch⟩ := HD.out
      obtain ⟨hq, hr⟩ := hdiv.done
      rw [H0.out.2.1.val] at hq hr
      rw [hr] at hdm
      refine ⟨_, _, _, _, _, _, rfl, ⟨q, by rw [HG.out]; exact ho, hdiv.digs, hq⟩, hdm, ?_⟩
      exact HI.out.2.1.trans hch (fun k hk e => by have := HG.out; omega)
    · obtain ⟨i, rfl⟩ : ∃ i, j = i + 1 := ⟨j - 1, by omega⟩
      have hij : (((i + 1 : Nat) : Int) - 1) = (i : Int) := by omega
      rw [hij]
      obtain ⟨wo, rfl⟩ : ∃ wo : World, wo = wr := ⟨_, rfl⟩
      obtain ⟨q, r, hdiv, hoq, ⟨lr, hrr, hmd, hdm, hNr⟩, _, hch⟩ := HD.out
      have hch0 : Chg (fun k => k = g) w wo := (HI.out.2.1.mono (fun _ _ h => h.elim)).trans hch (fun _ _ h => h)
      obtain ⟨ha, hNa, hla, htop⟩ := H0.out
      obtain ⟨ad, u, rfl, hu, hcu⟩ := (ha.chg hch0 (fun k _ h e => by have := HG.out; omega)).at_ (show i < n by omega)
      obtain ⟨p, hp, rfl⟩ := nv_at hu
      have hpb := hNa.digs.at_ hp
      have hgo : g < wo.heap.size := by
        have := HI.out.2.2
        have := HG.out
        have := hch.size
        omega
      have hmn : m ≤ n' := by
        obtain ⟨lb, hb, _, _, hNb⟩ := HY.out
        have hlb : lb.length = n' := by have := hb.len; rwa [nv_length] at this
        have hlr : lr.length = m := by have := hrr.len; rwa [nv_length] at this
        rcases Nat.lt_or_ge n' m with h | h
        · have h5 := hNb.len_lt (by omega) hNr (by omega)
          have h6 := hdiv.rest
          omega
        · exact h
      have hXlt := hdiv.quo_lt hNa.digs (by omega)
      have hstep := hdiv.step hNa.digs (by omega) (by omega)
      rw [dg_some hp] at hXlt hstep
      obtain ⟨X, hX⟩ : ∃ X, 10000 * r + p = X := ⟨_, rfl⟩
      rw [hX] at hXlt hstep
      have HP := Lib.hid (And.intro hp (And.intro hch0 (And.intro hX (And.intro hXlt (And.intro hstep (And.intro hoq hch))))))
      have HR := Lib.hid (And.intro hNr hrr)
      clear ha hNa hla htop hu hp hch0 hNr hrr hij hdiv hoq hch hX hXlt hstep
      go_wp2_with (at_builtin; refine wpList_app elemInts rfl _ _ rfl rfl (own_lit rfl (by simp only [maxLen]; omega)) rfl (HR.out.2.new ((Chg.refl _ _).alloc _)) (nv_one _) (by simp only [maxLen]; omega) (by omega) (by simp) ?_; intro A3 c3 w3 hown hg3 hat; have HA := Lib.hid (And.intro hown hg3); clear hown hg3 hat)
      obtain ⟨ho3, hg3⟩ := HA.out
      have ho3' : w3.ownsRow wo.heap.size 3 1 (.slice A3 (1 + m) c3) (1 + m) (nv .i64 (p :: lr)) := ho3
      have hn3 : New wo w3 := ((Chg.refl _ wo).alloc _).grown hg3 (fun k hk hlt => by simp [blk] at hk; omega)
      have hcap := own_cap ho3'
      have hval : val 10000 (p :: lr) = X := by rw [val_cons, HR.out.1.val, ← HP.out.2.2.1]; omega
      refine (normal_dm A3 (1 + m) c3 (p :: lr) w3 (Rd.of_own ho3') (Digs.cons hpb HR.out.1.digs) hcap.1 hcap.2).mono ?_
      rintro e w4 ⟨T4, rfl, hdm4, hT4, hn4⟩
      rw [hval] at hdm4
      have hA3 : ∀ k, blk A3 = some k → g < k := fun k hk => by have := own_blk_le ho3' hk; omega
      have H4 := Lib.hid (And.intro hdm4 (And.intro (hn3.new hn4) hA3))
      clear ho3 hg3 ho3' hn3 hcap hval hdm4 hn4 hA3 HA HR hcu
      go_wp2_with fail
      refine Calls.new1 ?_
      intro W5 hb5 hn5 hz5
      obtain ⟨hdm4, hn4, hA3⟩ := H4.out
      have hch5 : Chg (fun k => k = g) w W5 := HP.out.2.1.trans (hn4.new hn5) (fun _ _ h => h.elim)
      refine (digit_any A3 T4 c3 A' n' c' X y W5 (hdm4.new hn5) (HY.out.old hch5 (by rw [HG.out]; exact Nat.le_refl _)) hy1 HP.out.2.2.2.1).mono ?_
      rintro e w6 ⟨lo0, hi0, rfl, ⟨hlo0, hhi0, hhi9⟩, hn6⟩
      obtain ⟨Q, hQ⟩ : ∃ Q, X / y = Q := ⟨_, rfl⟩
      rw [hQ] at hlo0 hhi0
      have H6 := Lib.hid (And.intro ((hdm4.new hn5).new hn6) (And.intro (hn4.new (hn5.new hn6)) (And.intro hA3 (And.intro hQ (hch5.trans hn6 (fun _ _ h => h.elim))))))
      clear hb5 hn5 hz5 hdm4 hn4 hA3 hch5 hn6 hQ H4
      go_wp2_with fail
      go_loopw [12, 13] (fun a b wr => ∃ lo hi : Nat, a = .int .i64 lo ∧ b = .int .i64 hi ∧ lo ≤ Q ∧ Q ≤ hi ∧ hi ≤ 9999 ∧ Hid (New w6 wr)) (fun a b _ => (intOf b - intOf a).toNat)
      case atStart => exact ⟨lo0, hi0, rfl, rfl, hlo0, hhi0, hhi9, Chg.refl _ _⟩
      case round =>
        obtain ⟨wi, rfl⟩ : ∃ wi : World, wi = wr := ⟨_, rfl⟩
        obtain ⟨lo, hi, rfl, rfl, hlo, hhi, hh9, HN⟩ := hrel
        obtain ⟨hdmX, hn6, hA3, hQ, hch6⟩ := H6.out
        have hdmX2 := hdmX.new HN.out
        have hdmY := HY.out.old (hch6.trans HN.out (fun _ _ h => h.elim)) (by rw [HG.out]; exact Nat.le_refl _)
        have HXY := Lib.hid (And.intro hdmX2 hdmY)
        clear hdmX hn6 hA3 hQ hch6 hdmX2 hdmY
        by_cases hlt : lo < hi
        · have hlti : (lo : Int) < (hi : Int) := by omega
          obtain ⟨mid, hmid⟩ : ∃ mid, (lo + hi + 1) / 2 = mid := ⟨_, rfl⟩
          have hmi : ((lo : Int) + (hi : Int) + 1) / 2 = (mid : Int) := by omega
          have hm1 : lo < mid := by omega
          have hm2 : mid ≤ hi := by omega
          clear hmid
          go_wp2_with fail
          refine (small_any A' n' c' y mid wi HXY.out.2 (by omega) (by omega)).mono ?_
          rintro e w7 ⟨R7, m7, d7, rfl, hdm7, hn7⟩
          have H7 := Lib.hid (And.intro hdm7 hn7)
          clear hdm7 hn7
          go_wp2_with fail
          refine (compared_any R7 m7 d7 A3 T4 c3 (y * mid) X w7 H7.out.1 (HXY.out.1.new H7.out.2)).mono ?_
          rintro e w8 ⟨rfl, q8, hq8⟩
          have hn8 : New w6 w8 := by
            have := HN.out.new H7.out.2
            show Chg _ _ _
            rw [hq8]
            exact this.drewN q8
          have HN8 := Lib.hid hn8
          have hiff : y * mid ≤ X ↔ mid ≤ Q := by
            rw [← H6.out.2.2.2.1, Nat.le_div_iff_mul_le (by omega), Nat.mul_comm]
          clear hq8 hn8
          by_cases hc : mid ≤ Q
          · have hcv : decide (cmpI ((y * mid : Nat) : Int) (X : Int) ≤ 0) = true := by
              have := hiff.2 hc
              unfold cmpI
              split
              · decide
              · rw [if_neg (by omega)]; decide
            generalize cmpI ((y * mid : Nat) : Int) (X : Int) = cv at *
            clear hiff
            go_wp2
            go_roundw
            case rel => exact ⟨mid, hi, rfl, rfl, hc, hhi, hh9, HN8.out⟩
            case measure => simp [intOf]; omega
          · have hcv : decide (cmpI ((y * mid : Nat) : Int) (X : Int) ≤ 0) = false := by
              have : ¬ y * mid ≤ X := fun h => hc (hiff.1 h)
              rw [cmpI_gt (by omega)]
              decide
            generalize cmpI ((y * mid : Nat) : Int) (X : Int) = cv at *
            clear hiff
            go_wp2
            go_roundw
            case rel => exact ⟨lo, mid - 1, rfl, by go_num, hlo, by omega, by omega, HN8.out⟩
            case measure => simp [intOf]; omega
        · obtain rfl : lo = Q := by omega
          have hlti : decide ((lo : Int) < (hi : Int)) = false := by simp; omega
          have hlti' : decide (lo < hi) = false := by simp; omega
          go_wp2_with fail
          refine (small_any A' n' c' y lo wi HXY.out.2 (by omega) (by omega)).mono ?_
          rintro e w7 ⟨R7, m7, d7, rfl, hdm7, hn7⟩
          have H7 := Lib.hid (And.intro hdm7 hn7)
          clear hdm7 hn7
          have hle : y * lo ≤ X := by rw [← H6.out.2.2.2.1]; exact Nat.mul_div_le X y
          go_wp2_with fail
          refine (minus_any A3 T4 c3 R7 m7 d7 X (y * lo) w7 (HXY.out.1.new H7.out.2) H7.out.1 hle (by omega)).mono ?_
          rintro e w8 ⟨R8, m8, d8, rfl, ⟨l8, ho8, hd8, hv8⟩, hn8⟩
          have hcap8 := own_cap ho8
          have HN8 := Lib.hid (HN.out.new (H7.out.2.new hn8))
          have hsz8 : g < w7.heap.size := by
            have h1 := H6.out.2.1.size
            have h2 := HN.out.size
            have h3 := H7.out.2.size
            omega
          have H8 := Lib.hid (And.intro ho8 (And.intro hd8 (And.intro hv8 (And.intro hcap8 hn8))))
          clear ho8 hd8 hv8 hcap8 hn8 hle
          go_wp2_with fail
          obtain ⟨ho8, hd8, hv8, hcap8, hn8⟩ := H8.out
          refine (normal_dm R8 m8 d8 l8 w8 (Rd.of_own ho8) hd8 hcap8.1 hcap8.2).mono ?_
          rintro e w9 ⟨T9, rfl, hdm9, hT9, hn9⟩
          rw [hv8] at hdm9
          have hgR : blk R8 ≠ some g := fun e => by have := own_blk_le ho8 e; omega
          have hnow : New wo w9 := H6.out.2.1.new (HN8.out.new hn9)
          have hoW := own_chg HP.out.2.2.2.2.2.1 hnow (fun _ _ h => h)
          have hql : q.length = n := by have := HP.out.2.2.2.2.2.1.1; rw [nv_length] at this; omega
          obtain ⟨z, hz⟩ : ∃ z, q[i]? = some z := ⟨_, List.getElem?_eq_getElem (by omega)⟩
          have hcz := own_cell hoW (i := i) (u := .int .i64 (z : Nat)) (by rw [nv, List.getElem?_map, hz]; rfl)
          obtain ⟨gg, hgg, _, hgs, hfz⟩ := own_form hoW (by omega)
          have hgg' : g = gg := by simpa using hgg
          subst hgg'
          have hf := hfz i
          have HFin : Hid (DM w9 R8 T9 d8 (X - y * lo) ∧ w9.ownsRow g 3 1 (.slice (some ⟨g, 0, none⟩) n n) n (nv .i64 q) ∧ New wo w9) := ⟨hdm9, hoW, hnow⟩
          have HGR := Lib.hid hgR
          have hin : (i : Int) < (n : Int) := by omega
          have hinn : i < n := by omega
          clear ho8 hd8 hv8 hcap8 hn8 hdm9 hn9 hgR hnow hoW hql hz hgg hfz H8 HN8 HN H7 HXY
          go_wp2
          go_roundw
          case rel =>
            obtain ⟨hdm9, ho9, hn9⟩ := HFin.out
            obtain ⟨_, _, _, _, hstep, _, hch⟩ := HP.out
            have hset := own_set ho9 i (.int .i64 (lo : Int)) hinn
            rw [nv_set] at hset
            have hQ := H6.out.2.2.2.1
            rw [hQ] at hstep
            have hmod : X % y = X - y * lo := by rw [← hQ]; have := Nat.div_add_mod X y; omega
            rw [hmod] at hstep
            refine ⟨i, T9, d8, R8, rfl, rfl, by omega, q.set i lo, X - y * lo, hstep, hset.alloc _, ?_, fun _ => HGR.out, ?_⟩
            · exact (hdm9.chg ((Chg.refl (fun k => k = g) w9).setCell (p := ⟨g, i, none⟩) (fun _ => rfl) _) (fun k hk e => HGR.out (by rw [hk, e]))).new ((Chg.refl _ _).alloc _)
            · exact ((hch.trans (hn9.mono (fun _ _ h => h.elim)) (fun _ _ h => h)).setCell (fun _ => rfl) _).alloc _
          case measure => simp [intOf]
end Go.Proofs.YtmpkaimhjdkheaaGreatDoor

namespace Go.Proofs.YtmpkaimhjdkheaaGreatDoor
set_option linter.unusedVariables false
open Go.RowKit Go.Mem Go.Dig

/-- Quotient and rest by the amounts. -/
theorem ediv_pos' (s t : Bool) (X Y : Nat) (hY : 1 ≤ Y) (h : s = false ∨ X % Y = 0) : sg s X / sg t Y = sg (s != t) (X / Y : Nat) ∧ sg s X % sg t Y = ((X % Y : Nat) : Int) := by
  have hd := Nat.div_add_mod X Y
  have key : ∀ t : Bool, sg s X / (Y : Int) = sg s (X / Y : Nat) ∧ sg s X % (Y : Int) = ((X % Y : Nat) : Int) := by
    intro _
    rw [Int.ediv_emod_unique (by omega)]
    have hm := Nat.mod_lt X (show 0 < Y by omega)
    refine ⟨?_, by omega, by omega⟩
    rcases h with rfl | h
    · simp only [sg]
      have e : ((Y * (X / Y) + X % Y : Nat) : Int) = (X : Int) := by rw [hd]
      simp at e ⊢
      omega
    · rw [h] at hd ⊢
      have e : ((Y * (X / Y) + 0 : Nat) : Int) = (X : Int) := by rw [hd]
      cases s
      · simp [sg] at e ⊢; omega
      · simp [sg, Int.mul_neg] at e ⊢; omega
  obtain ⟨k1, k2⟩ := key true
  cases t
  · show sg s X / (Y : Int) = sg (s != false) (X / Y : Nat) ∧ sg s X % (Y : Int) = _
    rw [k1, k2]
    cases s <;> simp
  · show sg s X / (-(Y : Int)) = sg (s != true) (X / Y : Nat) ∧ sg s X % (-(Y : Int)) = _
    rw [Int.ediv_neg, Int.emod_neg, k1, k2]
    cases s <;> simp [sg]
theorem ediv_neg' (t : Bool) (X Y : Nat) (hY : 1 ≤ Y) (h : X % Y ≠ 0) : sg true X / sg t Y = sg (true != t) (X / Y + 1 : Nat) ∧ sg true X % sg t Y = ((Y - X % Y : Nat) : Int) := by
  have hd := Nat.div_add_mod X Y
  have hm := Nat.mod_lt X (show 0 < Y by omega)
  have key : sg true X / (Y : Int) = -((X / Y + 1 : Nat) : Int) ∧ sg true X % (Y : Int) = ((Y - X % Y : Nat) : Int) := by
    rw [Int.ediv_emod_unique (by omega)]
    refine ⟨?_, by omega, by omega⟩
    have e : ((Y * (X / Y) + X % Y : Nat) : Int) = (X : Int) := by rw [hd]
    simp only [sg]
    rw [Int.mul_neg, show ((Y : Int) * ((X / Y + 1 : Nat) : Int)) = (Y : Int) * (X / Y : Nat) + Y by rw [Int.natCast_add, Int.mul_add]; simp]
    rw [Int.natCast_add, Int.natCast_mul] at e
    simp only [if_true]
    omega
  obtain ⟨k1, k2⟩ := key
  cases t
  · show sg true X / (Y : Int) = sg (true != false) (X / Y + 1 : Nat) ∧ sg true X % (Y : Int) = _
    rw [k1, k2]
    simp [sg]
  · show sg true X / (-(Y : Int)) = sg (true != true) (X / Y + 1 : Nat) ∧ sg true X % (-(Y : Int)) = _
    rw [Int.ediv_neg, Int.emod_neg, k1, k2]
    simp [sg]

theorem sg_lt {s : Bool} {m k : Nat} (h : m < 2 ^ k) : (sg s m).natAbs < 2 ^ k := by rw [sg_abs]; exact h
theorem res_cc {P : Program} {fn : Func} {p q : Tmp} {ty ty2 : TypeId} {w : World} {g g2 : Nat} (h : fn.results = #[.cell p ty, .cell q ty2]) (tmps : Array Value) (hp : tmps.getD p undef = .pointer (some ⟨g, 0, none⟩)) {v v2 : Value} (hl : (loadVar ty ⟨g, 0, none⟩).run P w = .ok v w)
    (hq : tmps.getD q undef = .pointer (some ⟨g2, 0, none⟩)) (hl2 : (loadVar ty2 ⟨g2, 0, none⟩).run P w = .ok v2 w) : (results fn tmps).run P w = .ok (.tuple #[v, v2]) w := by
  have hp' : tmps[p]?.getD undef = .pointer (some ⟨g, 0, none⟩) := by simpa using hp
  have hq' : tmps[q]?.getD undef = .pointer (some ⟨g2, 0, none⟩) := by simpa using hq
  simp [results, h, hp', hq', asAddr, hl, hl2]
/-- Two structs are stored, one behind the other. -/
def set22 (W : World) (g g' : Nat) (p q r u : Value) : World := (((W.setCell ⟨g, 0, none⟩ p).setCell ⟨g, 1, none⟩ q).setCell ⟨g', 0, none⟩ r).setCell ⟨g', 1, none⟩ u
theorem blk22 {W : World} {g g' : Nat} {t t' : TypeId} {a b c d : Value} (h : Blk W g t #[a, b]) (h' : Blk W g' t' #[c, d]) (hne : g ≠ g') (p q r u : Value) : Blk (set22 W g g' p q r u) g t #[p, q] ∧ Blk (set22 W g g' p q r u) g' t' #[r, u] :=
  ⟨((h.set2 p q).far (p := ⟨g', 0, none⟩) hne r).far (p := ⟨g', 1, none⟩) hne u, ((h'.far (p := ⟨g, 0, none⟩) (fun e => hne e.symm) p).far (p := ⟨g, 1, none⟩) (fun e => hne e.symm) q).set2 r u⟩
theorem chg22 (W : World) (g g' : Nat) (p q r u : Value) : Chg (fun k => k = g ∨ k = g') W (set22 W g g' p q r u) :=
  ((((Chg.refl _ W).setCell (p := ⟨g, 0, none⟩) (fun _ => .inl rfl) p).setCell (p := ⟨g, 1, none⟩) (fun _ => .inl rfl) q).setCell (p := ⟨g', 0, none⟩) (fun _ => .inr rfl) r).setCell (p := ⟨g', 1, none⟩) (fun _ => .inr rfl) u
theorem DM.store22 {W : World} {A : Option Addr} {n k m g g' : Nat} {t t' : TypeId} {a b c d : Value} (hm : DM W A n k m) (h : Blk W g t #[a, b]) (h' : Blk W g' t' #[c, d]) (hne : g ≠ g') (hi : NoInt [a, b]) (hi' : NoInt [c, d]) (p q r u : Value) : DM (set22 W g g' p q r u) A n k m :=
  (hm.store h hi (Chg.at2 W g p q)).store ((h'.far (p := ⟨g, 0, none⟩) (fun e => hne e.symm) p).far (p := ⟨g, 1, none⟩) (fun e => hne e.symm) q) hi' (Chg.at2 _ g' r u)

set_option maxRecDepth 100000 in
set_option maxHeartbeats 4000000 in
theorem rdiv_dm (s s' : Bool) (A : Option Addr) (n c : Nat) (A' : Option Addr) (n' c' : Nat) (x y : Nat) (w : World) (hx : DM w A n c x) (hy : DM w A' n' c' y) (hn : n ≤ 1000000) (hn' : n' ≤ 900000) (hy1 : 1 ≤ y) (bx : x < 2 ^ 1000000) :
    Calls Tryz.prog 63 #[.agg #[.bool s, .slice A n c], .agg #[.bool s', .slice A' n' c']] w fun e w' => ∃ v v', e = .returned (.tuple #[v, v']) ∧ RN w' v (sg s x / sg s' y) ∧ RN w' v' (sg s x % sg s' y) ∧ New w w' := by
  obtain ⟨ZQ, hZQ⟩ : ∃ Z, sg s x / sg s' y = Z := ⟨_, rfl⟩
  obtain ⟨ZR, hZR⟩ : ∃ Z, sg s x % sg s' y = Z := ⟨_, rfl⟩
  rw [hZQ, hZR]
  have HZ := Lib.hid (And.intro hZQ hZR)
  have H0 := Lib.hid (And.intro hx (And.intro hy bx))
  clear hx hy bx hZQ hZR
  go_enter Tryz.func63, Tryz.ntmps63
  go_wp2_with fail
  refine Calls.new4 ?_
  intro W hb1 hb2 hb3 hb4 hnW hzW
  refine (divided_any A n c A' n' c' x y W (H0.out.1.new hnW) (H0.out.2.1.new hnW) hn hn' hy1).mono ?_
  rintro e w1 ⟨Q, kq, dq, R, mr, dr, rfl, ⟨lq, hoq, hdq, hvq⟩, hdr, hn1⟩
  have hc1 := hb1.chg hn1 (fun h => h)
  have hc2 := hb2.chg hn1 (fun h => h)
  have ha0 := hc1.cell 0 (u := .bool s) rfl
  have hb0 := hc2.cell 0 (u := .bool s') rfl
  have H1 := Lib.hid (And.intro hc1 (And.intro hc2 (And.intro (hb3.chg hn1 (fun h => h)) (And.intro (hb4.chg hn1 (fun h => h)) (And.intro (hnW.new hn1) (And.intro hdr (And.intro hoq (And.intro hdq hvq))))))))
  clear hb1 hb2 hb3 hb4 hnW hzW hoq hdq hvq hdr hn1 hc1 hc2
  go_wp2_with fail
  obtain ⟨hc1, hc2, hc3, hc4, hnw, hdr, hoq, hdq, hvq⟩ := H1.out
  have hcapq := own_cap hoq
  refine (normal_rn (s != s') Q kq dq lq w1 (Rd.of_own hoq) hdq hcapq.1 hcapq.2).mono ?_
  rintro e w2 ⟨v2, rfl, ⟨s2, A2, n2, c2, rfl, hs2, hm2⟩, hn2⟩
  rw [hvq] at hs2 hm2
  have H2 := Lib.hid (And.intro (hc1.chg hn2 (fun h => h)) (And.intro (hc2.chg hn2 (fun h => h)) (And.intro (hc3.chg hn2 (fun h => h)) (And.intro (hc4.chg hn2 (fun h => h)) (And.intro (hnw.new hn2) (And.intro (hdr.new hn2) (And.intro hs2 hm2)))))))
  clear hc1 hc2 hc3 hc4 hnw hdr hoq hdq hvq hcapq hs2 hm2 hn2 H1 ha0 hb0
  go_wp2_with fail
  refine Calls.new1 ?_
  intro W3 hb5 hn3 hz3
  obtain ⟨hc1, hc2, hc3, hc4, hnw, hdr, hs2, hm2⟩ := H2.out
  obtain ⟨lr, hrr, hrc, hrm, hNr⟩ := hdr.new hn3
  refine (normal_dm R mr dr lr W3 hrr hNr.digs hrc hrm).mono ?_
  rintro e w4 ⟨T4, rfl, hdm4, _, hn4⟩
  rw [hNr.val] at hdm4
  have hd1 := (hc1.chg hn3 (fun h => h)).chg hn4 (fun h => h)
  have ha0 := hd1.cell 0 (u := .bool s) rfl
  have hd2 := (hc2.chg hn3 (fun h => h)).chg hn4 (fun h => h)
  have hd5 := hb5.chg hn4 (fun h => h)
  have hdb := hd1.lt
  have hdb2 : w.heap.size + 1 + 1 + 1 < w2.heap.size := hc4.lt
  have hdb3 : w2.heap.size < w4.heap.size := hd5.lt
  have hpos := hdm4.pos
  have H4 := Lib.hid (And.intro hd1 (And.intro hd2 (And.intro ((hc3.chg hn3 (fun h => h)).chg hn4 (fun h => h)) (And.intro ((hc4.chg hn3 (fun h => h)).chg hn4 (fun h => h)) (And.intro hd5 (And.intro (hnw.new (hn3.new hn4)) (And.intro hs2 (And.intro ((hm2.new hn3).new hn4) (And.intro hdm4 hpos)))))))))
  clear hb5 hn3 hz3 hc1 hc2 hc3 hc4 hnw hdr hs2 hm2 hrr hrc hrm hNr hdm4 hn4 hd1 hd2 hd5 hpos H2
  by_cases hcase : s = true ∧ 0 < T4
  · obtain ⟨rfl, hT⟩ := hcase
    have hval : sg true x / sg s' y = sg (true != s') (x / y + 1 : Nat) ∧ sg true x % sg s' y = ((y - x % y : Nat) : Int) := by
      refine ediv_neg' s' x y hy1 (fun h => ?_)
      have := H4.out.2.2.2.2.2.2.2.2.2.2 h
      omega
    rw [HZ.out.1, HZ.out.2] at hval
    have HV := Lib.hid hval
    clear hval HZ
    have hbn : (true != s') = !s' := by cases s' <;> rfl
    rw [hbn] at H4 HV
    clear hbn
    have hTi : (0 : Int) < (T4 : Int) := by omega
    have hb0 := H4.out.2.1.cell 0 (u := .bool s') rfl
    have hdb4 : w.heap.size + 1 < w4.heap.size := H4.out.2.1.lt
    go_wp2_with fail
    refine Calls.new2 ?_
    intro W5 hb6 hb7 hn5 hz5
    obtain ⟨hd1, hd2, hd3, hd4, hd5, hnw, hs2, hm2, hdm4, hpos⟩ := H4.out
    have hr7 : Rd W5 (some ⟨w4.heap.size + 1, 0, none⟩) 1 (nv .i64 [1]) := ⟨rfl, fun _ => ⟨_, rfl, fun j u hu => by rw [Addr.add_lit, Nat.zero_add]; exact hb7.cell j (by simpa [nv] using hu)⟩⟩
    refine (normal_rn (!s') _ 1 1 [1] W5 hr7 (Digs.cons (by omega) (Digs.nil _)) (by omega) (by omega)).mono ?_
    rintro e w6 ⟨v6, rfl, ⟨s6, A6, n6, c6, rfl, hs6, hm6⟩, hn6⟩
    rw [show val 10000 [1] = 1 from rfl] at hs6 hm6
    have hn56 := hn5.new hn6
    have e5 := hd5.chg hn56 (fun h => h)
    have k50 := e5.cell 0 (u := .bool s2) rfl
    have k51 := e5.cell 1 (u := .slice A2 n2 c2) rfl
    have f50 := e5.frozen 0
    have f51 := e5.frozen 1
    have hl5 : w2.heap.size < w6.heap.size := e5.lt
    have H6 := Lib.hid (And.intro (hd2.chg hn56 (fun h => h)) (And.intro (hd3.chg hn56 (fun h => h)) (And.intro (hd4.chg hn56 (fun h => h)) (And.intro e5 (And.intro (hb6.chg hn6 (fun h => h)) (And.intro (hnw.new hn56) (And.intro hs2 (And.intro (hm2.new hn56) (And.intro (hdm4.new hn56) (And.intro hs6 hm6))))))))))
    clear hb6 hb7 hn5 hz5 hd1 hd2 hd3 hd4 hd5 hnw hs2 hm2 hdm4 hpos hr7 hs6 hm6 hn6 hn56 e5 H4 ha0 hb0
    go_wp2_with fail
    refine Calls.new1 ?_
    intro W7 hb8 hn7 hz7
    obtain ⟨g2, g3, g4, g5, g6, hnw, hs2, hm2, hdm4, hs6, hm6⟩ := H6.out
    have hx1 : 1 ≤ x := by
      rcases Nat.eq_zero_or_pos x with h | h
      · have := hdm4.pos.2 (by rw [h]; simp)
        omega
      · exact h
    have hq0 : x / y < 2 ^ 1000000 := Nat.lt_of_le_of_lt (Nat.div_le_self _ _) H0.out.2.2
    refine (radd_any _ _ (sg (!s') (x / y : Nat)) (sg (!s') (1 : Nat)) W7 ⟨s2, A2, n2, c2, rfl, hs2, hm2.new hn7⟩ ⟨s6, A6, n6, c6, rfl, hs6, hm6.new hn7⟩ (sg_lt (k := 1000000) hq0) (sg_lt (k := 1000000) (Nat.lt_of_le_of_lt hx1 H0.out.2.2))).mono ?_
    rintro e w8 ⟨v8, rfl, ⟨s8, A8, n8, c8, rfl, hs8, hm8⟩, hn8⟩
    have hsum : sg (!s') (x / y : Nat) + sg (!s') (1 : Nat) = sg (!s') (x / y + 1 : Nat) := by
      unfold sg
      split <;> omega
    rw [hsum] at hs8 hm8
    have hn78 := hn7.new hn8
    have q2 := g2.chg hn78 (fun h => h)
    have q5 := g5.chg hn78 (fun h => h)
    have q6 := g6.chg hn78 (fun h => h)
    have k50 := q5.cell 0 (u := .bool s2) rfl
    have k51 := q5.cell 1 (u := .slice A2 n2 c2) rfl
    have f50 := q5.frozen 0
    have f51 := q5.frozen 1
    have k21 := q2.cell 1 (u := .slice A' n' c') rfl
    have k61 := q6.cell 1 (u := .slice R T4 dr) rfl
    have hne1 : w.heap.size + 1 ≠ w2.heap.size := by omega
    have hne2 : w4.heap.size ≠ w2.heap.size := by omega
    have hT7 : T4 ≤ 900000 := by
      obtain ⟨lr', h1, _, _, hN1⟩ := hdm4
      obtain ⟨lb, hb, _, _, hNb⟩ := H0.out.2.1
      have hlb : lb.length = n' := by have := hb.len; rwa [nv_length] at this
      have hlr : lr'.length = T4 := by have := h1.len; rwa [nv_length] at this
      rcases Nat.lt_or_ge n' T4 with h | h
      · have h5 := hNb.len_lt (by omega) hN1 (by omega)
        have := Nat.mod_lt x (show 0 < y by omega)
        omega
      · omega
    have H8 := Lib.hid (And.intro (g3.chg hn78 (fun h => h)) (And.intro (g4.chg hn78 (fun h => h)) (And.intro q5 (And.intro q6 (And.intro (hnw.new hn78) (And.intro hs8 (And.intro hm8 (And.intro (hdm4.new hn78) (H0.out.2.1.new (hnw.new hn78))))))))))
    clear hb8 hn7 hz7 g2 g3 g4 g5 g6 hnw hs2 hm2 hdm4 hs6 hm6 hq0 hs8 hm8 hn8 hn78 q2 q5 q6 hsum H6 hl5
    go_wp2_with fail
    obtain ⟨g3, g4, g5, g6, hnw, hs8, hm8, hdm4, hdy⟩ := H8.out
    have hcs : Chg (fun k => k = w2.heap.size) w8 ((w8.setCell ⟨w2.heap.size, 0, none⟩ (.bool s8)).setCell ⟨w2.heap.size, 1, none⟩ (.slice A8 n8 c8)) := Chg.at2 _ _ _ _
    have hm8' := hm8.store g5 (noInt_two' _ _ _ _) hcs
    have hdm4' := hdm4.store g5 (noInt_two' _ _ _ _) hcs
    have hdy' := hdy.store g5 (noInt_two' _ _ _ _) hcs
    have g5' := g5.set2 (.bool s8) (.slice A8 n8 c8)
    have g3' := g3.chg hcs (by omega)
    have g4' := g4.chg hcs (by omega)
    have g6' := g6.chg hcs (by omega)
    have hnw' : New w _ := Chg.owned hnw hcs (fun k e => by omega)
    generalize ((w8.setCell ⟨w2.heap.size, 0, none⟩ (.bool s8)).setCell ⟨w2.heap.size, 1, none⟩ (.slice A8 n8 c8)) = W9 at *
    refine (minus_any A' n' c' R T4 dr y (x % y) W9 hdy' hdm4' (Nat.le_of_lt (Nat.mod_lt _ (by omega))) (by omega)).mono ?_
    rintro e wa ⟨Ra, ma, da, rfl, ⟨lra, hoa, hda, hva⟩, hna⟩
    have Ha := Lib.hid (And.intro (g3'.chg hna (fun h => h)) (And.intro (g4'.chg hna (fun h => h)) (And.intro (g5'.chg hna (fun h => h)) (And.intro (g6'.chg hna (fun h => h)) (And.intro (hnw'.new hna) (And.intro hs8 (And.intro (hm8'.new hna) (And.intro hoa (And.intro hda hva)))))))))
    clear g3 g4 g5 g6 hnw hs8 hm8 hdm4 hdy hcs hm8' hdm4' hdy' g5' g3' g4' g6' hnw' hoa hda hva hna H8 k50 k51 f50 f51 k21 k61
    go_wp2_with fail
    obtain ⟨p3, p4, p5, p6, hnw, hs8, hm8, hoa, hda, hva⟩ := Ha.out
    have hcapa := own_cap hoa
    refine (normal_dm Ra ma da lra wa (Rd.of_own hoa) hda hcapa.1 hcapa.2).mono ?_
    rintro e wb ⟨Tb, rfl, hdmb, _, hnb⟩
    rw [hva] at hdmb
    have e3 := p3.chg hnb (fun h => h)
    have e4 := p4.chg hnb (fun h => h)
    have e5 := p5.chg hnb (fun h => h)
    have e6 := p6.chg hnb (fun h => h)
    have k30 := e3.cell 0 (u := .bool false) rfl
    have k31 := e3.cell 1 (u := .slice none 0 0) rfl
    have k40 := e4.cell 0 (u := .bool false) rfl
    have k41 := e4.cell 1 (u := .slice none 0 0) rfl
    have k50 := e5.cell 0 (u := .bool s8) rfl
    have k51 := e5.cell 1 (u := .slice A8 n8 c8) rfl
    have k60 := e6.cell 0 (u := .bool false) rfl
    have k61 := e6.cell 1 (u := .slice R T4 dr) rfl
    have f30 := e3.frozen 0
    have f31 := e3.frozen 1
    have f40 := e4.frozen 0
    have f41 := e4.frozen 1
    have f60 := e6.frozen 0
    have f61 := e6.frozen 1
    have Hb := Lib.hid (And.intro e3 (And.intro e4 (And.intro e5 (And.intro e6 (And.intro (hnw.new hnb) (And.intro hs8 (And.intro (hm8.new hnb) hdmb)))))))
    have hne1 : w.heap.size + 1 + 1 ≠ w2.heap.size := by omega
    have hne2' : w.heap.size + 1 + 1 + 1 ≠ w2.heap.size := by omega
    have hne3 : w.heap.size + 1 + 1 ≠ w4.heap.size := by omega
    have hne4 : w.heap.size + 1 + 1 + 1 ≠ w4.heap.size := by omega
    clear p3 p4 p5 p6 hnw hs8 hm8 hoa hda hva hcapa hdmb hnb e3 e4 e5 e6 Ha
    go_wp2_with fail
    have hc6 : Chg (fun k => k = w4.heap.size) wb ((wb.setCell ⟨w4.heap.size, 0, none⟩ (.bool false)).setCell ⟨w4.heap.size, 1, none⟩ (.slice Ra Tb da)) := Chg.at2 _ _ _ _
    obtain ⟨e3, e4, e5, e6, hnw, hs8, hm8, hdmb⟩ := Hb.out
    have r3 := e3.chg hc6 (by omega)
    have r4 := e4.chg hc6 (by omega)
    have r6 := e6.set2 (.bool false) (.slice Ra Tb da)
    have hm8' := hm8.store e6 (noInt_two' _ _ _ _) hc6
    have hdmb' := hdmb.store e6 (noInt_two' _ _ _ _) hc6
    have hnw' : New w _ := Chg.owned hnw hc6 (fun k e => by omega)
    have r5 := e5.chg hc6 (by omega)
    generalize ((wb.setCell ⟨w4.heap.size, 0, none⟩ (.bool false)).setCell ⟨w4.heap.size, 1, none⟩ (.slice Ra Tb da)) = Wz at *
    have k30 := r3.cell 0 (u := .bool false) rfl
    have k31 := r3.cell 1 (u := .slice none 0 0) rfl
    have k40 := r4.cell 0 (u := .bool false) rfl
    have k41 := r4.cell 1 (u := .slice none 0 0) rfl
    have k50 := r5.cell 0 (u := .bool s8) rfl
    have k51 := r5.cell 1 (u := .slice A8 n8 c8) rfl
    have k60 := r6.cell 0 (u := .bool false) rfl
    have k61 := r6.cell 1 (u := .slice Ra Tb da) rfl
    have f30 := r3.frozen 0
    have f31 := r3.frozen 1
    have f40 := r4.frozen 0
    have f41 := r4.frozen 1
    have HF := Lib.hid (And.intro r3 (And.intro r4 (And.intro hnw' (And.intro hs8 (And.intro hm8' hdmb')))))
    clear hc6 e3 e4 e5 e6 hnw hs8 hm8 hdmb r3 r4 r5 r6 hm8' hdmb' hnw' Hb f60 f61
    go_region
    all_goals
      go_wp2
      obtain ⟨e3, e4, hnw, hs8, hm8, hdmb⟩ := HF.out
      have hg : w.heap.size + 1 + 1 ≠ w.heap.size + 1 + 1 + 1 := by omega
      obtain ⟨r3, r4⟩ := blk22 e3 e4 hg (.bool s8) (.slice A8 n8 c8) (.bool false) (.slice Ra Tb da)
      refine bodyPost_ret (res_cc rfl _ rfl (aggN.load (Blk.drew r3)) rfl (aggN.load (Blk.drew r4))) rfl ⟨_, _, rfl, ⟨s8, A8, n8, c8, rfl, by rw [HV.out.1]; exact hs8, ?_⟩, ⟨false, Ra, Tb, da, rfl, by rw [HV.out.2]; exact (decide_eq_false (Int.not_lt.2 (Int.natCast_nonneg _))).symm, ?_⟩, ?_⟩
      · rw [HV.out.1]; exact (hm8.store22 e3 e4 hg (noInt_two' _ _ _ _) (noInt_two' _ _ _ _) _ _ _ _).new ((Chg.refl _ _).drew)
      · rw [HV.out.2, Int.natAbs_natCast]; exact (hdmb.store22 e3 e4 hg (noInt_two' _ _ _ _) (noInt_two' _ _ _ _) _ _ _ _).new ((Chg.refl _ _).drew)
      · exact Chg.owned hnw (chg22 Wz _ _ _ _ _ _).drew (fun k e => by omega)
  · have hval : sg s x / sg s' y = sg (s != s') (x / y : Nat) ∧ sg s x % sg s' y = ((x % y : Nat) : Int) := by
      refine ediv_pos' s s' x y hy1 ?_
      cases s
      · exact .inl rfl
      · right
        have : T4 = 0 := by
          rcases Nat.eq_zero_or_pos T4 with h | h
          · exact h
          · exact absurd ⟨rfl, h⟩ hcase
        exact H4.out.2.2.2.2.2.2.2.2.2.1 this
    rw [HZ.out.1, HZ.out.2] at hval
    have HV := Lib.hid hval
    clear hval HZ
    cases s
    · go_wp2_with fail
      refine Code.new1 ?_
      intro W5 hb6 hn5 hz5
      obtain ⟨hd1, hd2, hd3, hd4, hd5, hnw, hs2, hm2, hdm4, hpos⟩ := H4.out
      have e3 := hd3.chg hn5 (fun h => h)
      have e4 := hd4.chg hn5 (fun h => h)
      have e5 := hd5.chg hn5 (fun h => h)
      have k30 := e3.cell 0 (u := .bool false) rfl
      have k31 := e3.cell 1 (u := .slice none 0 0) rfl
      have k40 := e4.cell 0 (u := .bool false) rfl
      have k41 := e4.cell 1 (u := .slice none 0 0) rfl
      have k50 := e5.cell 0 (u := .bool s2) rfl
      have k51 := e5.cell 1 (u := .slice A2 n2 c2) rfl
      have k60 := hb6.cell 0 (u := .bool false) rfl
      have k61 := hb6.cell 1 (u := .slice R T4 dr) rfl
      have f30 := e3.frozen 0
      have f31 := e3.frozen 1
      have f40 := e4.frozen 0
      have f41 := e4.frozen 1
      have HF := Lib.hid (And.intro e3 (And.intro e4 (And.intro (hnw.new hn5) (And.intro hs2 (And.intro (hm2.new hn5) (And.intro (hdm4.new hn5) hpos))))))
      have hne1 : w.heap.size + 1 + 1 ≠ w2.heap.size := by omega
      have hne2 : w.heap.size + 1 + 1 + 1 ≠ w2.heap.size := by omega
      have hne3 : w.heap.size + 1 + 1 ≠ w4.heap.size := by omega
      have hne4 : w.heap.size + 1 + 1 + 1 ≠ w4.heap.size := by omega
      clear hd1 hd2 hd3 hd4 hd5 hnw hs2 hm2 hdm4 hpos hn5 hz5 hb6 e3 e4 e5 H4
      go_region
      all_goals
        go_wp2
        obtain ⟨e3, e4, hnw, hs2, hm2, hdm4, hpos⟩ := HF.out
        have hg : w.heap.size + 1 + 1 ≠ w.heap.size + 1 + 1 + 1 := by omega
        obtain ⟨r3, r4⟩ := blk22 e3 e4 hg (.bool s2) (.slice A2 n2 c2) (.bool false) (.slice R T4 dr)
        refine bodyPost_ret (res_cc rfl _ rfl (aggN.load (Blk.drew r3)) rfl (aggN.load (Blk.drew r4))) rfl ⟨_, _, rfl, ⟨s2, A2, n2, c2, rfl, by rw [HV.out.1]; exact hs2, ?_⟩, ⟨false, R, T4, dr, rfl, by rw [HV.out.2]; exact (decide_eq_false (Int.not_lt.2 (Int.natCast_nonneg _))).symm, ?_⟩, ?_⟩
        · rw [HV.out.1]; exact (hm2.store22 e3 e4 hg (noInt_two' _ _ _ _) (noInt_two' _ _ _ _) _ _ _ _).new ((Chg.refl _ _).drew)
        · rw [HV.out.2, Int.natAbs_natCast]; exact (hdm4.store22 e3 e4 hg (noInt_two' _ _ _ _) (noInt_two' _ _ _ _) _ _ _ _).new ((Chg.refl _ _).drew)
        · exact Chg.owned hnw (chg22 W5 _ _ _ _ _ _).drew (fun k e => by omega)
    · have hT0 : T4 = 0 := by
        rcases Nat.eq_zero_or_pos T4 with h | h
        · exact h
        · exact absurd ⟨rfl, h⟩ hcase
      subst hT0
      clear hcase
      go_wp2_with fail
      refine Code.new1 ?_
      intro W5 hb6 hn5 hz5
      obtain ⟨hd1, hd2, hd3, hd4, hd5, hnw, hs2, hm2, hdm4, hpos⟩ := H4.out
      have e3 := hd3.chg hn5 (fun h => h)
      have e4 := hd4.chg hn5 (fun h => h)
      have e5 := hd5.chg hn5 (fun h => h)
      have k30 := e3.cell 0 (u := .bool false) rfl
      have k31 := e3.cell 1 (u := .slice none 0 0) rfl
      have k40 := e4.cell 0 (u := .bool false) rfl
      have k41 := e4.cell 1 (u := .slice none 0 0) rfl
      have k50 := e5.cell 0 (u := .bool s2) rfl
      have k51 := e5.cell 1 (u := .slice A2 n2 c2) rfl
      have k60 := hb6.cell 0 (u := .bool false) rfl
      have k61 := hb6.cell 1 (u := .slice R 0 dr) rfl
      have f30 := e3.frozen 0
      have f31 := e3.frozen 1
      have f40 := e4.frozen 0
      have f41 := e4.frozen 1
      have HF := Lib.hid (And.intro e3 (And.intro e4 (And.intro (hnw.new hn5) (And.intro hs2 (And.intro (hm2.new hn5) (And.intro (hdm4.new hn5) hpos))))))
      have hne1 : w.heap.size + 1 + 1 ≠ w2.heap.size := by omega
      have hne2 : w.heap.size + 1 + 1 + 1 ≠ w2.heap.size := by omega
      have hne3 : w.heap.size + 1 + 1 ≠ w4.heap.size := by omega
      have hne4 : w.heap.size + 1 + 1 + 1 ≠ w4.heap.size := by omega
      clear hd1 hd2 hd3 hd4 hd5 hnw hs2 hm2 hdm4 hpos hn5 hz5 hb6 e3 e4 e5 H4
      go_region
      all_goals
        go_wp2
        obtain ⟨e3, e4, hnw, hs2, hm2, hdm4, hpos⟩ := HF.out
        have hg : w.heap.size + 1 + 1 ≠ w.heap.size + 1 + 1 + 1 := by omega
        obtain ⟨r3, r4⟩ := blk22 e3 e4 hg (.bool s2) (.slice A2 n2 c2) (.bool false) (.slice R 0 dr)
        refine bodyPost_ret (res_cc rfl _ rfl (aggN.load (Blk.drew r3)) rfl (aggN.load (Blk.drew r4))) rfl ⟨_, _, rfl, ⟨s2, A2, n2, c2, rfl, by rw [HV.out.1]; exact hs2, ?_⟩, ⟨false, R, 0, dr, rfl, by rw [HV.out.2]; exact (decide_eq_false (Int.not_lt.2 (Int.natCast_nonneg _))).symm, ?_⟩, ?_⟩
        · rw [HV.out.1]; exact (hm2.store22 e3 e4 hg (noInt_two' _ _ _ _) (noInt_two' _ _ _ _) _ _ _ _).new ((Chg.refl _ _).drew)
        · rw [HV.out.2, Int.natAbs_natCast]; exact (hdm4.store22 e3 e4 hg (noInt_two' _ _ _ _) (noInt_two' _ _ _ _) _ _ _ _).new ((Chg.refl _ _).drew)
        · exact Chg.owned hnw (chg22 W5 _ _ _ _ _ _).drew (fun k e => by omega)

theorem rdiv_any (v v' : Value) (x y : Int) (w : World) (hx : RN w v x) (hy : RN w v' y) (bx : x.natAbs < 2 ^ 1000000) (bY : y.natAbs < 2 ^ 900000) (hy0 : y ≠ 0) :
    Calls Tryz.prog 63 #[v, v'] w fun e w' => ∃ v v', e = .returned (.tuple #[v, v']) ∧ RN w' v (x / y) ∧ RN w' v' (x % y) ∧ New w w' := by
  obtain ⟨s, A, n, c, rfl, hs, hm⟩ := hx
  obtain ⟨s', A', n', c', rfl, hs', hm'⟩ := hy
  have h := rdiv_dm s s' A n c A' n' c' _ _ w hm hm' (bz_len hm bx) (bz_len hm' bY) (by omega) bx
  rw [hs, hs', sg_of, sg_of] at h
  rw [hs, hs']
  exact h
end Go.Proofs.YtmpkaimhjdkheaaGreatDoor

namespace Go.Proofs.YtmpkaimhjdkheaaGreatDoor
set_option linter.unusedVariables false
open Go.RowKit Go.Mem Go.Dig Go.Pure

theorem WI.store22 {W : World} {v : Value} {z : Int} {g g' : Nat} {t t' : TypeId} {a b c d : Value} (hm : WI W v z) (h : Blk W g t #[a, b]) (h' : Blk W g' t' #[c, d]) (hne : g ≠ g') (hi : NoInt [a, b]) (hi' : NoInt [c, d]) (p q r u : Value) : WI (set22 W g g' p q r u) v z := by
  have h1 : WI ((W.setCell ⟨g, 0, none⟩ p).setCell ⟨g, 1, none⟩ q) v z := hm.store h hi (Chg.at2 _ _ _ _)
  have h2 : Blk ((W.setCell ⟨g, 0, none⟩ p).setCell ⟨g, 1, none⟩ q) g' t' #[c, d] := (h'.far (p := ⟨g, 0, none⟩) (fun e => hne e.symm) _).far (p := ⟨g, 1, none⟩) (fun e => hne e.symm) _
  exact h1.store h2 hi' (Chg.at2 _ _ _ _)
theorem WM.len_mono {w w' : World} {A A' : Option Addr} {n c m n' c' m' : Nat} (h : WM w A n c m) (h' : WM w' A' n' c' m') (hm : m ≤ m') : n ≤ n' := by
  obtain ⟨l, h1, _, _, h2⟩ := h
  obtain ⟨l', h1', _, _, h2'⟩ := h'
  have e1 := h1.len
  have e2 := h1'.len
  rw [nv_length] at e1 e2
  rcases Nat.lt_or_ge n' n with hlt | hge
  · have := h2'.len_lt (by omega) h2 (by omega); omega
  · exact hge
theorem noInt2 (s : Bool) (A : Option Addr) (n c : Nat) : NoInt [Value.bool s, Value.slice A n c] := fun k z h => by simp at h

set_option maxRecDepth 100000 in
set_option maxHeartbeats 2000000 in
theorem wdiv_wm (s t : Bool) (A : Option Addr) (n c : Nat) (A' : Option Addr) (n' c' : Nat) (X Y : Nat) (w : World) (hx : WM w A n c X) (hy : WM w A' n' c' Y) (hn : n ≤ 900000) (hn' : n' ≤ 900000) (hY : 1 ≤ Y) :
    Calls Tryz.prog 29 #[.agg #[.bool s, .slice A n c], .agg #[.bool t, .slice A' n' c']] w fun e w' => ∃ s1 A1 n1 c1 s2 A2 n2 c2, e = .returned (.tuple #[.agg #[.bool s1, .slice A1 n1 c1], .agg #[.bool s2, .slice A2 n2 c2], .int .i64 0]) ∧ Hid (WI w' (.agg #[.bool s1, .slice A1 n1 c1]) (sg s X / sg t Y) ∧ WI w' (.agg #[.bool s2, .slice A2 n2 c2]) (sg s X % sg t Y) ∧ New w w') := by
  obtain ⟨ZQ, hZQ⟩ : ∃ Z, sg s X / sg t Y = Z := ⟨_, rfl⟩
  obtain ⟨ZR, hZR⟩ : ∃ Z, sg s X % sg t Y = Z := ⟨_, rfl⟩
  rw [hZQ, hZR]
  have hn0 : ¬ n' = 0 := fun h => by have := hy.pos.1 h; omega
  have hn0b : ((n' : Int) == 0) = false := by simp; omega
  have HZ := Lib.hid (And.intro hZQ hZR)
  have H0 := Lib.hid (And.intro hx hy)
  clear hx hy hZQ hZR
  go_enter Tryz.func29, Tryz.ntmps29
  go_wp2_with fail
  refine Calls.new4 ?_
  intro W hb1 hb2 hb3 hb4 hnW hzW
  refine (divMag_any A n c A' n' c' X Y W (H0.out.1.new hnW) (H0.out.2.new hnW) hn hY).mono ?_
  rintro e w1 ⟨Q, nq, cq, R, nr, cr, rfl, H1⟩
  obtain ⟨hwq, hwr, hn1⟩ := H1.out
  have hr0 := hwr.pos
  have hk1 := hb1.chg hn1 (fun h => h)
  have hk2 := hb2.chg hn1 (fun h => h)
  have hk3 := hb3.chg hn1 (fun h => h)
  have hk4 := hb4.chg hn1 (fun h => h)
  have ha0 := hk1.cell 0 (u := .bool s) rfl
  have hb0 := hk2.cell 0 (u := .bool t) rfl
  have hb1' := hk2.cell 1 (u := .slice A' n' c') rfl
  have HB := Lib.hid (And.intro hk1 (And.intro hk2 (And.intro hk3 (And.intro hk4 (hnW.new hn1)))))
  clear hb1 hb2 hb3 hb4 hnW hzW hn1 H1 hk1 hk2 hk3 hk4
  by_cases hcase : s = true ∧ X % Y ≠ 0
  · obtain ⟨hs, hrest⟩ := hcase
    subst hs
    have hnr : (0 : Int) < (nr : Int) := by
      rcases Nat.eq_zero_or_pos nr with h | h
      · exact absurd (hr0.1 h) hrest
      · omega
    have hnr' : 0 < nr := by omega
    have HWQ := Lib.hid (And.intro hwq hwr)
    have HRE := Lib.hid hrest
    clear hwq hwr hr0 hrest
    go_wp2_with fail
    refine Calls.new1 ?_
    intro W5 hb5 hn5 hz5
    have hone : WM W5 (some ⟨w1.heap.size, 0, none⟩) 1 1 1 := ⟨[1], ⟨rfl, fun _ => ⟨_, rfl, fun j u hu => by
      match j, hu with
      | 0, hu =>
        simp [nv] at hu
        subst hu
        rw [Addr.add_lit]
        exact hb5.cell 0 rfl⟩⟩, Nat.le_refl _, by omega, ⟨Digs.cons (by omega) (Digs.nil _), by simp [Trim], by simp [val_cons, val_nil]⟩⟩
    have hnq : nq ≤ 1000000 := Nat.le_trans (HWQ.out.1.len_mono H0.out.1 (Nat.div_le_self _ _)) (by omega)
    refine (addMag_any Q nq cq _ 1 1 (X / Y) 1 W5 (HWQ.out.1.new hn5) hone hnq (by omega)).mono ?_
    rintro e w2 ⟨Q2, nq2, cq2, rfl, H2⟩
    obtain ⟨hwq2, hn2⟩ := H2.out
    have hn12 := hn5.new hn2
    have hb1'' := hn12.cell hb1' (fun h => h)
    have ha0' := hn12.cell ha0 (fun h => h)
    have hb0' := hn12.cell hb0 (fun h => h)
    have HN2 := Lib.hid (And.intro hn12 hwq2)
    clear hb5 hn5 hz5 hone hnq H2 hwq2 hn2 hn12 ha0 hb0 hb1'
    go_wp2_with fail
    refine (subMag_any A' n' c' R nr cr Y (X % Y) w2 ((H0.out.2.new (HB.out.2.2.2.2)).new HN2.out.1) (HWQ.out.2.new HN2.out.1) (Nat.le_of_lt (Nat.mod_lt _ (by omega))) (by omega)).mono ?_
    rintro e w3 ⟨R2, nr2, cr2, rfl, H3⟩
    obtain ⟨hwr2, hn3⟩ := H3.out
    have ha3 := hn3.cell ha0' (fun h => h)
    have hb3 := hn3.cell hb0' (fun h => h)
    have HN3 := Lib.hid (And.intro (HN2.out.1.new hn3) (And.intro (HN2.out.2.new hn3) hwr2))
    clear H3 hwr2 hn3 ha0' hb0' hb1''
    go_wp2_with fail
    refine (made_h (!t) Q2 nq2 cq2 _ w3 HN3.out.2.1).mono ?_
    rintro e w4 ⟨s4, A4, n4, c4, rfl, HI4, HN4⟩
    clear ha3 hb3
    go_wp2_with fail
    refine (made_h false R2 nr2 cr2 _ w4 (HN3.out.2.2.new HN4.out)).mono ?_
    rintro e w5 ⟨s5, A5, n5, c5, rfl, HI5, HN5⟩
    have hn15 := (HN3.out.1.new HN4.out).new HN5.out
    have hk3 := HB.out.2.2.1.chg hn15 (fun h => h)
    have hk4 := HB.out.2.2.2.1.chg hn15 (fun h => h)
    have g30 := hk3.cell 0 rfl
    have g31 := hk3.cell 1 rfl
    have g40 := hk4.cell 0 rfl
    have g41 := hk4.cell 1 rfl
    have f30 := hk3.frozen 0
    have f31 := hk3.frozen 1
    have f40 := hk4.frozen 0
    have f41 := hk4.frozen 1
    have HK := Lib.hid (And.intro hk3 (And.intro hk4 hn15))
    clear hk3 hk4 hn15
    go_wp2
    obtain ⟨hk3, hk4, hn15⟩ := HK.out
    have hb22 := blk22 hk3 hk4 (by omega) (.bool s4) (.slice A4 n4 c4) (.bool s5) (.slice A5 n5 c5)
    obtain ⟨e1, e2⟩ := ediv_neg' t X Y hY HRE.out
    rw [e1] at HZ
    rw [e2] at HZ
    have i4 := HI4.out.new HN5.out
    have i5 := HI5.out
    rw [show sg (!t) (X / Y + 1) = sg (true != t) ((X / Y + 1 : Nat)) by cases t <;> rfl, HZ.out.1] at i4
    rw [show sg false (Y - X % Y) = ((Y - X % Y : Nat) : Int) by rfl, HZ.out.2] at i5
    refine bodyPost_ret (res_cct rfl _ rfl (aggInt.load hb22.1) rfl (aggInt.load hb22.2) rfl) rfl ⟨s4, A4, n4, c4, s5, A5, n5, c5, rfl, i4.store22 hk3 hk4 (by omega) (noInt2 _ _ _ _) (noInt2 _ _ _ _) _ _ _ _, i5.store22 hk3 hk4 (by omega) (noInt2 _ _ _ _) (noInt2 _ _ _ _) _ _ _ _, ?_⟩
    exact Chg.owned (HB.out.2.2.2.2.new hn15) (chg22 _ _ _ _ _ _ _) (fun k e => by omega)
  · have hor : s = false ∨ X % Y = 0 := by
      cases s
      · exact .inl rfl
      · right
        rcases Nat.eq_zero_or_pos (X % Y) with h | h
        · exact h
        · exact absurd ⟨rfl, by omega⟩ hcase
    obtain ⟨e1, e2⟩ := ediv_pos' s t X Y hY hor
    rw [e1, e2] at HZ
    have HWQ := Lib.hid (And.intro hwq hwr)
    have hsplit : s = false ∨ (s = true ∧ nr = 0) := by
      cases s
      · exact .inl rfl
      · exact .inr ⟨rfl, hr0.2 (hor.resolve_left (by simp))⟩
    clear hwq hwr hr0 hcase hor e1 e2 hb1'
    rcases hsplit with hs | ⟨hs, hnr⟩
    · subst hs
      go_wp2_with fail
      refine (made_h t Q nq cq _ w1 HWQ.out.1).mono ?_
      rintro e w4 ⟨s4, A4, n4, c4, rfl, HI4, HN4⟩
      clear ha0 hb0
      go_wp2_with fail
      refine (made_h false R nr cr _ w4 (HWQ.out.2.new HN4.out)).mono ?_
      rintro e w5 ⟨s5, A5, n5, c5, rfl, HI5, HN5⟩
      have hn15 := HN4.out.new HN5.out
      have hk3 := HB.out.2.2.1.chg hn15 (fun h => h)
      have hk4 := HB.out.2.2.2.1.chg hn15 (fun h => h)
      have g30 := hk3.cell 0 rfl
      have g31 := hk3.cell 1 rfl
      have g40 := hk4.cell 0 rfl
      have g41 := hk4.cell 1 rfl
      have f30 := hk3.frozen 0
      have f31 := hk3.frozen 1
      have f40 := hk4.frozen 0
      have f41 := hk4.frozen 1
      have HK := Lib.hid (And.intro hk3 (And.intro hk4 hn15))
      clear hk3 hk4 hn15
      go_wp2
      obtain ⟨hk3, hk4, hn15⟩ := HK.out
      have hb22 := blk22 hk3 hk4 (by omega) (.bool s4) (.slice A4 n4 c4) (.bool s5) (.slice A5 n5 c5)
      have i4 := HI4.out.new HN5.out
      have i5 := HI5.out
      rw [show sg t (X / Y) = sg (false != t) ((X / Y : Nat)) by cases t <;> rfl, HZ.out.1] at i4
      rw [show sg false (X % Y) = ((X % Y : Nat) : Int) by rfl, HZ.out.2] at i5
      refine bodyPost_ret (res_cct rfl _ rfl (aggInt.load hb22.1) rfl (aggInt.load hb22.2) rfl) rfl ⟨s4, A4, n4, c4, s5, A5, n5, c5, rfl, i4.store22 hk3 hk4 (by omega) (noInt2 _ _ _ _) (noInt2 _ _ _ _) _ _ _ _, i5.store22 hk3 hk4 (by omega) (noInt2 _ _ _ _) (noInt2 _ _ _ _) _ _ _ _, ?_⟩
      exact Chg.owned (HB.out.2.2.2.2.new hn15) (chg22 _ _ _ _ _ _ _) (fun k e => by omega)
    · subst hs
      subst hnr
      go_wp2_with fail
      refine (made_h (!t) Q nq cq _ w1 HWQ.out.1).mono ?_
      rintro e w4 ⟨s4, A4, n4, c4, rfl, HI4, HN4⟩
      clear ha0 hb0
      go_wp2_with fail
      refine (made_h false R 0 cr _ w4 (HWQ.out.2.new HN4.out)).mono ?_
      rintro e w5 ⟨s5, A5, n5, c5, rfl, HI5, HN5⟩
      have hn15 := HN4.out.new HN5.out
      have hk3 := HB.out.2.2.1.chg hn15 (fun h => h)
      have hk4 := HB.out.2.2.2.1.chg hn15 (fun h => h)
      have g30 := hk3.cell 0 rfl
      have g31 := hk3.cell 1 rfl
      have g40 := hk4.cell 0 rfl
      have g41 := hk4.cell 1 rfl
      have f30 := hk3.frozen 0
      have f31 := hk3.frozen 1
      have f40 := hk4.frozen 0
      have f41 := hk4.frozen 1
      have HK := Lib.hid (And.intro hk3 (And.intro hk4 hn15))
      clear hk3 hk4 hn15
      go_wp2
      obtain ⟨hk3, hk4, hn15⟩ := HK.out
      have hb22 := blk22 hk3 hk4 (by omega) (.bool s4) (.slice A4 n4 c4) (.bool s5) (.slice A5 n5 c5)
      have i4 := HI4.out.new HN5.out
      have i5 := HI5.out
      rw [show sg (!t) (X / Y) = sg (true != t) ((X / Y : Nat)) by cases t <;> rfl, HZ.out.1] at i4
      rw [show sg false (X % Y) = ((X % Y : Nat) : Int) by rfl, HZ.out.2] at i5
      refine bodyPost_ret (res_cct rfl _ rfl (aggInt.load hb22.1) rfl (aggInt.load hb22.2) rfl) rfl ⟨s4, A4, n4, c4, s5, A5, n5, c5, rfl, i4.store22 hk3 hk4 (by omega) (noInt2 _ _ _ _) (noInt2 _ _ _ _) _ _ _ _, i5.store22 hk3 hk4 (by omega) (noInt2 _ _ _ _) (noInt2 _ _ _ _) _ _ _ _, ?_⟩
      exact Chg.owned (HB.out.2.2.2.2.new hn15) (chg22 _ _ _ _ _ _ _) (fun k e => by omega)
end Go.Proofs.YtmpkaimhjdkheaaGreatDoor

namespace Go.Proofs.YtmpkaimhjdkheaaGreatDoor
set_option linter.unusedVariables false
open Go.RowKit Go.Mem Go.Dig Go.Pure

theorem wdiv_any (v v' : Value) (x y : Int) (w : World) (hx : WI w v x) (hy : WI w v' y) (bx : x.natAbs < 2 ^ 900000) (bY : y.natAbs < 2 ^ 900000) (hy0 : y ≠ 0) :
    Calls Tryz.prog 29 #[v, v'] w fun e w' => ∃ s1 A1 n1 c1 s2 A2 n2 c2, e = .returned (.tuple #[.agg #[.bool s1, .slice A1 n1 c1], .agg #[.bool s2, .slice A2 n2 c2], .int .i64 0]) ∧ Hid (WI w' (.agg #[.bool s1, .slice A1 n1 c1]) (x / y) ∧ WI w' (.agg #[.bool s2, .slice A2 n2 c2]) (x % y) ∧ New w w') := by
  obtain ⟨s, A, n, c, rfl, hs, hm⟩ := hx
  obtain ⟨t, A', n', c', rfl, ht, hm'⟩ := hy
  have h := wdiv_wm s t A n c A' n' c' x.natAbs y.natAbs w hm hm' (bz_wlen hm bx) (bz_wlen hm' bY) (by omega)
  rw [hs, ht, sg_of, sg_of] at h
  rw [hs, ht]
  exact h

end Go.Proofs.YtmpkaimhjdkheaaGreatDoor

namespace Go.Proofs.YtmpkaimhjdkheaaGreatDoor
set_option linter.unusedVariables false
open Go.RowKit Go.Mem Go.Dig
open Go.Lib (decDigits)

theorem str_at {b : ByteArray} {l : List UInt8} (h : b = St l) {k : Nat} (hk : k < b.size) : l[k]? = some b[k] := by
  subst h
  rw [St_size] at hk
  rw [List.getElem?_eq_getElem hk]
  rfl

set_option maxHeartbeats 1000000 in
theorem digits_wide (b : ByteArray) (l : List UInt8) (hb : b = St l) (hn : b.size ≤ 5000) (r : Bool) (hr : r = true ↔ Txt.Formed l) (w : World) :
    Calls Tryz.prog 22 #[.string b] w fun e w' => e = .returned (.bool r) ∧ w = w' := by
  have hl : l.length = b.size := by rw [hb, St_size]
  have H0 := Lib.hid (And.intro hb (And.intro hl hr))
  clear hb hl hr
  go_enter Tryz.func22, Tryz.ntmps22
  go_wp2
  go_loop [3] (fun i => ∃ k : Nat, i = .int .i64 (k : Int) ∧ k ≤ b.size ∧ Hid (Txt.AllDig (l.take k))) (fun i => b.size - (intOf i).toNat)
  case atStart => exact ⟨0, rfl, by omega, by show Txt.AllDig _; rw [List.take_zero]; exact Txt.AllDig.nil⟩
  case round =>
    obtain ⟨k, rfl, hk, HA⟩ := hrel
    by_cases hlt : k < b.size
    · obtain ⟨hb, hl, hr⟩ := H0.out
      have hc := str_at hb hlt
      obtain ⟨c, hcc⟩ : ∃ c, b[k] = c := ⟨_, rfl⟩
      rw [hcc] at hc
      by_cases hd : Txt.isDig c
      · have hd' := hd
        unfold Txt.isDig at hd
        have h1 : decide ((c.toNat : Int) < 48) = false := by simp; omega
        have h2 : decide (57 < (c.toNat : Int)) = false := by simp; omega
        have HN : Hid (Txt.AllDig (l.take (k + 1))) := by
          show Txt.AllDig _
          rw [List.take_add_one, hc]
          refine HA.out.append (fun x hx => ?_)
          rw [show (some c).toList = [c] by rfl, List.mem_singleton] at hx
          subst hx
          exact hd'
        clear hb hl hr hc hd hd' HA
        go_wp2
        go_round
        case rel => exact ⟨k + 1, by go_num, by omega, HN⟩
        case measure => simp [intOf]; omega
      · have hrf : r = false := by
          cases r
          · rfl
          · exfalso
            exact hd ((hr.1 rfl).1 c (List.mem_of_getElem? hc))
        subst hrf
        unfold Txt.isDig at hd
        by_cases h1 : c.toNat < 48
        · have h1' : (c.toNat : Int) < 48 := by omega
          clear hb hl hr hc hd HA
          go_wp2
          go_ret
          exact ⟨rfl, rfl⟩
        · have h1' : decide ((c.toNat : Int) < 48) = false := by simp; omega
          have h2' : 57 < (c.toNat : Int) := by omega
          clear hb hl hr hc hd HA
          go_wp2
          go_ret
          exact ⟨rfl, rfl⟩
    · obtain rfl : b.size = k := by omega
      obtain ⟨hb, hl, hr⟩ := H0.out
      have hall : Txt.AllDig l := by have := HA.out; rwa [List.take_of_length_le (by omega)] at this
      have hge : decide (((b.size : Nat) : Int) < ((b.size : Nat) : Int)) = false := by simp
      cases l with
      | nil =>
        have hrf : r = false := by
          cases r
          · rfl
          · exact absurd rfl ((hr.1 rfl).ne)
        subst hrf
        have hbe : b = ⟨#[]⟩ := hb
        subst hbe
        clear hb hl hr hall HA hge
        go_wp2
        go_ret
        exact ⟨rfl, rfl⟩
      | cons c0 t =>
        have hpos : 0 < b.size := by rw [← hl]; simp
        have hc := str_at hb hpos
        simp at hc
        have htl : b.toList = c0 :: t := by rw [Lib.toList_data, hb]; simp [St]
        have hne : b.toList.isEmpty = false := by rw [htl]; rfl
        have hne2 : ¬ b.toList = [] := by rw [htl]; simp
        have hne3 : (!b.toList.isEmpty) = true := by rw [hne]; rfl
        by_cases h0 : c0 :: t = [48]
        · have hrt : r = true := hr.2 ⟨hall, .inl h0⟩
          subst hrt
          have hbe : b = ⟨#[48]⟩ := by rw [hb, h0]; rfl
          subst hbe
          clear hb hl hr hall HA hge hne hne2 hne3 htl hc hpos
          go_wp2
          go_ret
          exact ⟨rfl, rfl⟩
        · have hbe : (b.toList == [48]) = false := by rw [htl]; simpa using h0
          have hbe2 : ¬ b.toList = [48] := by rw [htl]; exact h0
          obtain ⟨c, hcc⟩ : ∃ c, b[0] = c := ⟨_, rfl⟩
          rw [hcc] at hc
          subst hc
          by_cases h48 : c0 = 48
          · have hrf : r = false := by
              cases r
              · rfl
              · exfalso
                rcases (hr.1 rfl).2 with h | ⟨a, t', h, ha⟩
                · exact h0 h
                · injection h with h1 h2
                  exact ha (h1 ▸ h48)
            subst hrf
            subst h48
            clear hb hl hr hall HA h0 htl
            go_wp2
            go_ret
            exact ⟨rfl, rfl⟩
          · have hrt : r = true := hr.2 ⟨hall, .inr ⟨c0, t, rfl, h48⟩⟩
            subst hrt
            have hcn : ((c0.toNat : Int) != 48) = true := by
              simp
              intro e
              apply h48
              exact UInt8.toNat_inj.1 (by simpa using (by omega : c0.toNat = 48))
            clear hb hl hr hall HA h0 htl
            go_wp2
            go_ret
            exact ⟨rfl, rfl⟩
end Go.Proofs.YtmpkaimhjdkheaaGreatDoor
