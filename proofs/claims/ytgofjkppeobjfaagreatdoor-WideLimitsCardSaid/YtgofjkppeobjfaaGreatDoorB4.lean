/- The parts WideN, WideO, WideP, WideQ, TextB, MemIn, TextC, TextD, TextE of the proof, in one text. -/
import Derived.Deep.LoopGhost
import Derived.Deep.RegionHeld3
import Derived.RangeFuncNested
import Derived.RangeFuncBound
import Derived.RangeFuncCalls
import Derived.RangeFuncLeaves
import Derived.Shelf.Abstract
import Derived.Shelf.RegionOpen
import Derived.WalkKit
import Derived.OwnWalkIn
import Derived.TacticsInMore
import Derived.LoopNIn
import Derived.LoopIn
import Derived.Lib.ConvBytes
import Derived.Test.YtgofjkppeobjfaaGreatDoorB3
set_option linter.unusedSimpArgs false
set_option linter.unusedVariables false

namespace Go.Proofs.YtgofjkppeobjfaaGreatDoor
set_option linter.unusedVariables false
open Go.RowKit Go.Mem Go.Dig Go.Pure

theorem Blk.new' {w : World} {g : Nat} {t : TypeId} {cs : Array Value} (hg : g = w.heap.size) : Blk (w.alloc (.cells cs t)) g t cs := by subst hg; exact Blk.new _ _ _
theorem own_al {w : World} {g : Nat} {e : TypeId} {n c : Nat} {xs : List Value} (h : w.ownsRow g e 1 (.slice (some ⟨g, 0, none⟩) n c) n xs) (o : Obj) : (w.alloc o).ownsRow g e 1 (.slice (some ⟨g, 0, none⟩) n c) n xs := own_chg h ((Chg.refl (fun _ => False) w).alloc o) (fun _ _ h => h)
theorem own_nw {w w' : World} {g : Nat} {e : TypeId} {n c : Nat} {xs : List Value} (h : w.ownsRow g e 1 (.slice (some ⟨g, 0, none⟩) n c) n xs) (hn : New w w') : w'.ownsRow g e 1 (.slice (some ⟨g, 0, none⟩) n c) n xs := own_chg h hn (fun _ _ h => h)
theorem own_fr {w : World} {g : Nat} {e : TypeId} {n c : Nat} {xs : List Value} {p : Addr} (h : w.ownsRow g e 1 (.slice (some ⟨g, 0, none⟩) n c) n xs) (hne : g ≠ p.block) (u : Value) : (w.setCell p u).ownsRow g e 1 (.slice (some ⟨g, 0, none⟩) n c) n xs :=
  own_chg h ((Chg.refl (fun k => k = p.block) w).setCell (p := p) (fun _ => rfl) u) (fun k hk e => by simp [blk] at hk; omega)
theorem bcell {W w1 : World} (hb : Below W.heap.size W w1) : (∀ b o, b < W.heap.size → w1.cell? ⟨b, o, none⟩ = W.cell? ⟨b, o, none⟩) ∧ (∀ b o, b < W.heap.size → w1.frozen? ⟨b, o, none⟩ = W.frozen? ⟨b, o, none⟩) :=
  ⟨fun b o h => hb.cell (p := ⟨b, o, none⟩) h, fun b o h => hb.frozen (p := ⟨b, o, none⟩) h⟩
theorem bitLen32 {x : Nat} (h0 : 1 ≤ x) (h : x < 4294967296) : 1 ≤ Lib.bitLen x ∧ Lib.bitLen x ≤ 32 ∧ x < 2 ^ Lib.bitLen x := by
  have h1 := Lib.bitLenAux_bounds 64 x (by omega) (by omega)
  have h2 := Lib.bitLen_le x 32 (by omega) (by omega)
  exact ⟨h1.1, h2, h1.2.2⟩
theorem lz_any (x : Nat) (h0 : 1 ≤ x) (h : x < 4294967296) (w : World) :
    Calls Tryz.prog 54 #[.int .u32 (x : Int)] w fun e w' => ∃ s : Nat, e = .returned (.int .i64 (s : Int)) ∧ s < 32 ∧ Hid (x * 2 ^ s < 4294967296) ∧ w = w' := by
  refine (Tryz.bits_LeadingZeros32 (x : Int) w (by omega) (by omega)).mono ?_
  rintro e w' ⟨rfl, rfl⟩
  rw [Int.toNat_natCast]
  obtain ⟨h1, h2, h3⟩ := bitLen32 h0 h
  refine ⟨32 - Lib.bitLen x, ?_, by omega, ?_, rfl⟩
  · rw [show (32 : Int) - (Lib.bitLen x : Int) = ((32 - Lib.bitLen x : Nat) : Int) by omega]
  · show _ < _
    have e : (4294967296 : Nat) = 2 ^ Lib.bitLen x * 2 ^ (32 - Lib.bitLen x) := by rw [← Nat.pow_add, show Lib.bitLen x + (32 - Lib.bitLen x) = 32 by omega]
    rw [e]
    exact Nat.mul_lt_mul_of_pos_right h3 (Nat.pow_pos (by omega))
/-- The divisor, shifted: its digits without the last, which is 0. -/
theorem den_facts {lb : List Nat} {n s y : Nat} (hN : Num 4294967296 lb y) (hl : lb.length = n) (hn : 2 ≤ n) (hs : s < 32) (ht : dg lb (n - 1) * 2 ^ s < 4294967296) :
    Digs 4294967296 ((lst (n + 1) (shD 4294967296 (2 ^ s) (2 ^ (32 - s)) lb)).take n) ∧ val 4294967296 ((lst (n + 1) (shD 4294967296 (2 ^ s) (2 ^ (32 - s)) lb)).take n) = y * 2 ^ s := by
  have hPQ : 2 ^ s * 2 ^ (32 - s) = 4294967296 := by rw [← Nat.pow_add, show s + (32 - s) = 32 by omega]
  have hP : 1 ≤ 2 ^ s := Nat.one_le_two_pow
  have hQ : 1 ≤ 2 ^ (32 - s) := Nat.one_le_two_pow
  have hd : Digs 4294967296 (lst (n + 1) (shD 4294967296 (2 ^ s) (2 ^ (32 - s)) lb)) := lst_digs (fun j _ => shD_lt hQ hPQ hP hN.digs j)
  refine ⟨hd.take n, ?_⟩
  have hv := sh_val hQ hPQ hP lb
  rw [hl, hN.val] at hv
  rw [← hv, lst_succ, List.take_left' (by rw [lst_len]), val_snoc]
  have h0 : shD 4294967296 (2 ^ s) (2 ^ (32 - s)) lb n = 0 := by
    rw [shD, dg_none (by omega), Nat.zero_mul, Nat.zero_mod, if_neg (by omega), Nat.zero_add]
    apply Nat.div_eq_of_lt
    refine Nat.lt_of_mul_lt_mul_right (a := 2 ^ s) ?_
    rw [Nat.mul_comm (2 ^ (32 - s)), hPQ]
    exact ht
  rw [h0]; omega
theorem num_facts {la : List Nat} {n s x : Nat} (hN : Num 4294967296 la x) (hl : la.length = n) (hs : s < 32) :
    Digs 4294967296 (lst (n + 1) (shD 4294967296 (2 ^ s) (2 ^ (32 - s)) la)) ∧ val 4294967296 (lst (n + 1) (shD 4294967296 (2 ^ s) (2 ^ (32 - s)) la)) = x * 2 ^ s := by
  have hPQ : 2 ^ s * 2 ^ (32 - s) = 4294967296 := by rw [← Nat.pow_add, show s + (32 - s) = 32 by omega]
  have hP : 1 ≤ 2 ^ s := Nat.one_le_two_pow
  have hQ : 1 ≤ 2 ^ (32 - s) := Nat.one_le_two_pow
  refine ⟨lst_digs (fun j _ => shD_lt hQ hPQ hP hN.digs j), ?_⟩
  have hv := sh_val hQ hPQ hP la
  rwa [hl, hN.val] at hv
theorem kn_low {B x y n n' s : Nat} {L : List Nat} (hB : 1 ≤ B) (hx : x < B ^ n) (hy : B ^ (n' - 1) ≤ y) (h1 : 1 ≤ n') (hnn : n' ≤ n) (hL : L.length = n + 1) (hv : val B L = x * 2 ^ s) : val B (L.drop (n + 1 - n')) < y * 2 ^ s := by
  have h := val_split B L (n + 1 - n') (by omega)
  rw [hv] at h
  have hs : 1 ≤ 2 ^ s := Nat.one_le_two_pow
  rcases Nat.lt_or_ge (val B (L.drop (n + 1 - n'))) (y * 2 ^ s) with hlt | hge
  · exact hlt
  · exfalso
    have e1 : B ^ (n + 1 - n') * (y * 2 ^ s) ≤ B ^ (n + 1 - n') * val B (L.drop (n + 1 - n')) := Nat.mul_le_mul_left _ hge
    have e2 : B ^ n ≤ B ^ (n + 1 - n') * y := by
      have : B ^ n = B ^ (n + 1 - n') * B ^ (n' - 1) := by rw [← Nat.pow_add]; congr 1; omega
      rw [this]
      exact Nat.mul_le_mul_left _ hy
    have e3 : B ^ n * 2 ^ s ≤ B ^ (n + 1 - n') * y * 2 ^ s := Nat.mul_le_mul_right _ e2
    have e4 : x * 2 ^ s < B ^ n * 2 ^ s := Nat.mul_lt_mul_of_pos_right hx (by omega)
    rw [Nat.mul_assoc] at e3
    omega
theorem top_of_val {B : Nat} {l : List Nat} {m : Nat} (hd : Digs B l) (hl : l.length = m + 2) (hv : B ^ (m + 1) ≤ val B l) : 1 ≤ dg l (m + 1) := by
  rcases Nat.eq_zero_or_pos (dg l (m + 1)) with h0 | h0
  · exfalso
    have e : l = l.take (m + 1 + 1) := by rw [List.take_of_length_le (by omega)]
    have h1 : val B l = val B (l.take (m + 1)) := by
      have h2 := val_take_dg B l (m + 1)
      rw [h0, Nat.mul_zero, Nat.add_zero, ← e] at h2
      exact h2
    have h3 := val_lt (hd.take (m + 1))
    rw [List.length_take, Nat.min_eq_left (by omega)] at h3
    omega
  · exact h0
theorem dig_at {l : List Nat} {i : Nat} (h : i < l.length) : l[i]? = some (dg l i) := by
  rw [List.getElem?_eq_getElem h, dg_some (List.getElem?_eq_getElem h)]
theorem top_pos {B : Nat} {l : List Nat} {y n : Nat} (h : Num B l y) (hl : l.length = n) (hn : 1 ≤ n) : 1 ≤ dg l (n - 1) := by
  rcases Nat.eq_zero_or_pos (dg l (n - 1)) with h0 | h0
  · exfalso
    have ht := h.trim
    unfold Trim at ht
    apply ht
    rw [List.getLast?_eq_getElem?, hl, dig_at (by omega), h0]
  · exact h0

theorem WM.chg {S : Nat → Prop} {w w' : World} {A : Option Addr} {n c m : Nat} (h : WM w A n c m) (hc : Chg S w w') (hs : ∀ k, blk A = some k → ¬ S k) : WM w' A n c m := by
  obtain ⟨l, h1, h2⟩ := h
  exact ⟨l, h1.chg hc (fun k hk _ => hs k hk), h2⟩
theorem low_len' {s n : Nat} {L : List Nat} (hn : n ≤ L.length) : (lwL s n L n).take n = low 4294967296 (2 ^ s) (2 ^ (32 - s)) (L.take n) := by
  have hl : (low 4294967296 (2 ^ s) (2 ^ (32 - s)) (L.take n)).length = n := by rw [low_len]; simp; omega
  unfold lwL
  rw [List.take_of_length_le (l := low _ _ _ _) (by omega), List.take_left' hl]
theorem div_ends {x y s X D N n : Nat} {L q : List Nat} (hX : x * 2 ^ s = X) (hD : y * 2 ^ s = D) (h : KnI 4294967296 X D N n 0 L q) (hn : n ≤ N) (hDn : D ≤ 4294967296 ^ n) (hs : s < 32) :
    val 4294967296 q = x / y ∧ val 4294967296 (low 4294967296 (2 ^ s) (2 ^ (32 - s)) (L.take n)) = x % y := by
  obtain ⟨h1, h2⟩ := h.done
  have hp : 0 < 2 ^ s := Nat.pow_pos (by omega)
  have hlow := h.low
  rw [List.drop_zero] at hlow
  have hPQ : 2 ^ s * 2 ^ (32 - s) = 4294967296 := by rw [← Nat.pow_add, show s + (32 - s) = 32 by omega]
  refine ⟨by rw [h1, ← hX, ← hD, Nat.mul_div_mul_right _ _ hp], ?_⟩
  rw [low_val hPQ Nat.one_le_two_pow Nat.one_le_two_pow]
  have hsp := val_split 4294967296 L n (by rw [h.len]; exact hn)
  have h0 : val 4294967296 (L.drop n) = 0 := by
    rcases Nat.eq_zero_or_pos (val 4294967296 (L.drop n)) with h0 | h0
    · exact h0
    · have := Nat.le_mul_of_pos_right (4294967296 ^ n) h0
      omega
  rw [h0, Nat.mul_zero, Nat.add_zero] at hsp
  rw [← hsp, h2, ← hX, ← hD, Nat.mul_mod_mul_right, Nat.mul_div_cancel _ hp]

set_option maxRecDepth 100000 in
set_option maxHeartbeats 4000000 in
theorem divMag_long (A : Option Addr) (n c : Nat) (A' : Option Addr) (n' c' : Nat) (x y : Nat) (w : World) (hx : WM w A n c x) (hy : WM w A' n' c' y) (hn : n ≤ 900000) (hn' : 2 ≤ n') (hle : y ≤ x) :
    Calls Tryz.prog 32 #[.slice A n c, .slice A' n' c'] w fun e w' => ∃ Q nq cq R nr cr, e = .returned (.tuple #[.slice Q nq cq, .slice R nr cr]) ∧ Hid (WM w' Q nq cq (x / y) ∧ WM w' R nr cr (x % y) ∧ New w w') := by
  obtain ⟨la, ha, hc1, hc2, hNa⟩ := hx
  obtain ⟨lb, hb, hd1, hd2, hNb⟩ := hy
  have hla : la.length = n := by have := ha.len; rwa [nv_length] at this
  have hlb : lb.length = n' := by have := hb.len; rwa [nv_length] at this
  have hnn : n' ≤ n := by
    rcases Nat.lt_or_ge n n' with h | h
    · have := hNa.len_lt (by omega) hNb (by omega); omega
    · exact h
  obtain ⟨t, ht⟩ : ∃ t, dg lb (n' - 1) = t := ⟨_, rfl⟩
  have ht1 := top_pos hNb hlb (by omega)
  rw [ht] at ht1
  have htb : t < 4294967296 := by rw [← ht]; exact dg_lt hNb.digs (by omega) _
  obtain ⟨j1, hj1⟩ : ∃ j, n' - 1 = j := ⟨_, rfl⟩
  obtain ⟨bd, u, rfl, hu, hcu⟩ := hb.at_ (show j1 < n' by omega)
  obtain ⟨z, hz, rfl⟩ := nv_at hu
  obtain rfl : t = z := by rw [← ht, hj1, dg_some hz]
  have hji : (n' : Int) - 1 = (j1 : Int) := by omega
  have hjn : j1 < n' := by omega
  have H0 := Lib.hid (And.intro ha (And.intro hb (And.intro hNa (And.intro hNb (And.intro hla (And.intro hlb ht))))))
  have hcm : Calls Tryz.prog 39 #[.slice A n c, .slice (some bd) n' c'] w fun e w' => e = .returned (.int .i64 (cmpI x y)) ∧ ∃ q, w' = w.drewN q := cmpMag_any _ _ _ _ _ _ x y w ⟨la, ha, hc1, hc2, hNa⟩ ⟨lb, hb, hd1, hd2, hNb⟩
  have HC := Lib.hid hcm
  have hcv : decide (cmpI (x : Int) (y : Int) < 0) = false := by
    unfold cmpI
    rw [if_neg (by omega)]
    split <;> decide
  have hne1 : ((n' : Int) == 1) = false := by simp; omega
  clear hcm ha hb hNa hNb hla hlb ht hu hz hj1
  go_enter Tryz.func32, Tryz.ntmps32
  go_wp2_with fail
  go_step3
  go_wp2_with fail
  refine HC.out.mono ?_
  rintro e w1 ⟨rfl, q1, hq1⟩
  generalize cmpI (x : Int) (y : Int) = cv at *
  have hn1 : New w w1 := by rw [hq1]; exact (Chg.refl _ _).drewN q1
  have hcu1 := hn1.cell hcu (fun h => h)
  have HN1 := Lib.hid hn1
  clear hcu hn1 hq1 HC
  go_wp2_with fail
  refine (lz_any t ht1 htb w1).mono ?_
  rintro e w2 ⟨s, rfl, hs, HS, rfl⟩
  clear hcu1
  have hca : ∀ W', New w1 W' → Calls Tryz.prog 55 #[.slice A n c, .int .i64 s] W' fun e w' => ∃ g, e = .returned (.slice (some ⟨g, 0, none⟩) ((n + 1 : Nat)) ((n + 1 : Nat))) ∧ Hid (w'.ownsRow g 66 1 (.slice (some ⟨g, 0, none⟩) ((n + 1 : Nat)) ((n + 1 : Nat))) (n + 1) (nv .u32 (lst (n + 1) (shD 4294967296 (2 ^ s) (2 ^ (32 - s)) la)))) ∧ Hid (g = W'.heap.size) ∧ Hid (New W' w') := fun W' h =>
    (shifted_any A n c s W' la (H0.out.1.new (HN1.out.new h)) H0.out.2.2.1.digs hc1 (by unfold maxLen; omega) (by omega) hs).mono fun e w' ⟨g, h1, h2⟩ => ⟨g, h1, h2.out.1, h2.out.2.1, h2.out.2.2⟩
  have hcb : ∀ W', New w1 W' → Calls Tryz.prog 55 #[.slice (some bd) n' c', .int .i64 s] W' fun e w' => ∃ g, e = .returned (.slice (some ⟨g, 0, none⟩) ((n' + 1 : Nat)) ((n' + 1 : Nat))) ∧ Hid (w'.ownsRow g 66 1 (.slice (some ⟨g, 0, none⟩) ((n' + 1 : Nat)) ((n' + 1 : Nat))) (n' + 1) (nv .u32 (lst (n' + 1) (shD 4294967296 (2 ^ s) (2 ^ (32 - s)) lb)))) ∧ Hid (g = W'.heap.size) ∧ Hid (New W' w') := fun W' h =>
    (shifted_any (some bd) n' c' s W' lb (H0.out.2.1.new (HN1.out.new h)) H0.out.2.2.2.1.digs hd1 (by unfold maxLen; omega) (by omega) hs).mono fun e w' ⟨g, h1, h2⟩ => ⟨g, h1, h2.out.1, h2.out.2.1, h2.out.2.2⟩
  have HA := Lib.hid (And.intro hca hcb)
  clear hca hcb
  have hup := fun (W : World) (g : Nat) => run_upto elemU32 .i64 (some ⟨g, 0, none⟩) (n' + 1) (n' + 1) n' (n' : Int) rfl (by omega) W
  go_upto_region 7 with fail
  generalize hWb : w1 = Wb at *
  clear hWb
  go_cut [9, 10] from 48 to 56 (fun v u wc => ∃ g gd gN gD : Nat, v = .pointer (some ⟨gN, 0, none⟩) ∧ u = .pointer (some ⟨gD, 0, none⟩) ∧ Hid (Blk wc gN 27 #[.slice (some ⟨g, 0, none⟩) (n + 1) (n + 1)] ∧ Blk wc gD 27 #[.slice (some ⟨gd, 0, none⟩) n' (n' + 1)] ∧ gN ≠ gD ∧ g < gd ∧ wc.ownsRow g 66 1 (.slice (some ⟨g, 0, none⟩) ((n + 1 : Nat)) ((n + 1 : Nat))) (n + 1) (nv .u32 (lst (n + 1) (shD 4294967296 (2 ^ s) (2 ^ (32 - s)) la))) ∧ wc.ownsRow gd 66 1 (.slice (some ⟨gd, 0, none⟩) ((n' + 1 : Nat)) ((n' + 1 : Nat))) (n' + 1) (nv .u32 (lst (n' + 1) (shD 4294967296 (2 ^ s) (2 ^ (32 - s)) lb))) ∧ w.heap.size ≤ g ∧ w.heap.size ≤ gN ∧ w.heap.size ≤ gD ∧ New w wc))
  case first =>
    go_region_with (first
      | (go_at_call 55; (with_reducible refine (HA.out.1 _ ?_).mono ?_); (first | exact (Chg.refl _ _).drew | exact ((Chg.refl _ _).alloc _).drew | exact (((Chg.refl _ _).alloc _).alloc _).drew); rintro e w5 ⟨g, rfl, HO5, HG5, HN5⟩; (have HB5 : New Wb w5 := by (first | exact ((Chg.refl _ _).drew).new HN5.out | exact (((Chg.refl _ _).alloc _).drew).new HN5.out | exact ((((Chg.refl _ _).alloc _).alloc _).drew).new HN5.out)); obtain ⟨hc5, hf5⟩ := bcell (New.below HN5.out); (have hz5 := HN5.out.size); (try simp only [World.size_alloc, World.drew] at hz5); (try have hs51 : Wb.heap.size < w5.heap.size := by omega); (try have hs52 : Wb.heap.size + 1 < w5.heap.size := by omega))
      | (go_at_call 55; (with_reducible refine (HA.out.2 _ ?_).mono ?_); (first | exact HB5 | exact HB5.alloc _ | exact (HB5.alloc _).alloc _); rintro e w6 ⟨gd, rfl, HO6, HG6, HN6⟩; obtain ⟨hc6, hf6⟩ := bcell (New.below HN6.out); (have hz6 := HN6.out.size); (try simp only [World.size_alloc, World.drew] at hz6); (have HB6 : New Wb w6 := by (first | exact HB5.new HN6.out | exact (HB5.alloc _).new HN6.out | exact ((HB5.alloc _).alloc _).new HN6.out)); (try have hs61 : Wb.heap.size < w6.heap.size := by omega); (try have hs62 : Wb.heap.size + 1 < w6.heap.size := by omega); (try have hs63 : w5.heap.size < w6.heap.size := by omega); (try have hs64 : w5.heap.size + 1 < w6.heap.size := by omega)))
    all_goals
      clear hc5 hf5 hc6 hf6 hup
      go_wp2_with fail
      go_meet
      case rel =>
        have hg5 := HG5.out
        have hg6 := HG6.out
        (try simp only [World.size_alloc, World.drew] at hg5)
        (try simp only [World.size_alloc, World.drew] at hg6)
        have hg5b := (own_blk_le HO5.out (k := g) (by simp [blk])).2
        have hs0 := HN1.out.size
        have hz65 := HN6.out.size
        (try simp only [World.size_alloc] at hz65)
        have hw6 : New w w6 := HN1.out.new HB6
        refine ⟨g, gd, _, _, rfl, rfl, ?_, ?_, ?_, ?_, ?_, ?_, ?_, ?_, ?_, ?_⟩
        · repeat (first | (refine Blk.new' ?_; (first | rfl | (simp; done))) | refine Blk.alloc ?_ _ | refine Blk.set1 (x := .slice none 0 0) ?_ _ | (refine Blk.far (p := ⟨_, 0, none⟩) ?_ ?_ _; rotate_left; (dsimp only; omega)) | refine Blk.chg ?_ HN6.out (fun h => h) | refine Blk.chg ?_ HN5.out (fun h => h) | refine Blk.drew ?_)
        · repeat (first | (refine Blk.new' ?_; (first | rfl | (simp; done))) | refine Blk.alloc ?_ _ | refine Blk.set1 (x := .slice none 0 0) ?_ _ | (refine Blk.far (p := ⟨_, 0, none⟩) ?_ ?_ _; rotate_left; (dsimp only; omega)) | refine Blk.chg ?_ HN6.out (fun h => h) | refine Blk.chg ?_ HN5.out (fun h => h) | refine Blk.drew ?_)
        · omega
        · omega
        · repeat (first | exact HO5.out | refine own_al ?_ _ | (refine own_fr (p := ⟨_, 0, none⟩) ?_ ?_ _; rotate_left; (dsimp only; omega)) | refine own_nw ?_ HN6.out)
        · repeat (first | exact HO6.out | refine own_al ?_ _ | (refine own_fr (p := ⟨_, 0, none⟩) ?_ ?_ _; rotate_left; (dsimp only; omega)))
        · omega
        · omega
        · omega
        · repeat (first | exact hw6 | refine Chg.alloc ?_ _ | refine Chg.setCell ?_ (fun h => absurd h (by dsimp only; omega)) _)
  case rest =>
    obtain ⟨g, gd, gN, gD, rfl, rfl, HR⟩ := hcut
    clear HA hup
    obtain ⟨bN, bD, hND, hggd, ho, hod, hwg, hwN, hwD, hnw⟩ := HR.out
    obtain ⟨N, hN⟩ : ∃ N, n + 1 = N := ⟨_, rfl⟩
    obtain ⟨K, hK⟩ : ∃ K, N - n' = K := ⟨_, rfl⟩
    have hKi : (N : Int) - (n' : Int) = (K : Int) := by omega
    have hK1 : 1 ≤ K := by omega
    have hNb : N ≤ 900001 := by omega
    have hKN : K + n' = N := by omega
    have hkD := bD.cell 0 (u := .slice (some ⟨gd, 0, none⟩) n' (n' + 1)) rfl
    obtain ⟨hNaX, hNbX, hlaX, hlbX, htX⟩ := H0.out.2.2
    obtain ⟨hnumd, hnumv⟩ := num_facts hNaX hlaX hs
    obtain ⟨hdend, hdenv⟩ := den_facts hNbX hlbX hn' hs (by rw [htX]; exact HS.out)
    obtain ⟨L, hL⟩ : ∃ L, lst (n + 1) (shD 4294967296 (2 ^ s) (2 ^ (32 - s)) la) = L := ⟨_, rfl⟩
    obtain ⟨ld2, hld2⟩ : ∃ l, lst (n' + 1) (shD 4294967296 (2 ^ s) (2 ^ (32 - s)) lb) = l := ⟨_, rfl⟩
    obtain ⟨ld, hld⟩ : ∃ l, ld2.take n' = l := ⟨_, rfl⟩
    rw [hL] at hnumd hnumv ho
    have hLl : L.length = N := by rw [← hL, lst_len, hN]
    rw [hN] at ho bN
    have hkN := bN.cell 0 (u := .slice (some ⟨g, 0, none⟩) N N) rfl
    rw [hld2] at hod
    rw [hld2, hld] at hdend hdenv
    have hld2l : ld2.length = n' + 1 := by rw [← hld2, lst_len]
    have hldl : ld.length = n' := by rw [← hld]; simp [hld2l]
    have hrd : Rd wc (some ⟨gd, 0, none⟩) n' (nv .u32 ld) := by
      have := (Rd.of_own hod).take (k := n') (by omega)
      rwa [nv_take, hld] at this
    obtain ⟨m, hm⟩ : ∃ m, n' = m + 2 := ⟨n' - 2, by omega⟩
    have hj1m : j1 = m + 1 := by omega
    obtain ⟨ld1, hld1⟩ : ∃ d, dg ld j1 = d := ⟨_, rfl⟩
    obtain ⟨nx, hnx⟩ : ∃ d, dg ld m = d := ⟨_, rfl⟩
    have hk1 : wc.cell? ⟨gd, j1, none⟩ = some (.int .u32 (ld1 : Int)) := by
      have := hrd.at_ (k := j1) (by omega)
      obtain ⟨ad, u, hA, hu, hc⟩ := this
      injection hA with hA
      subst hA
      obtain ⟨z, hz, rfl⟩ := nv_at hu
      rw [Addr.add_lit, Nat.zero_add] at hc
      rw [hc, ← hld1, dg_some hz]
    have hk0 : wc.cell? ⟨gd, m, none⟩ = some (.int .u32 (nx : Int)) := by
      have := hrd.at_ (k := m) (by omega)
      obtain ⟨ad, u, hA, hu, hc⟩ := this
      injection hA with hA
      subst hA
      obtain ⟨z, hz, rfl⟩ := nv_at hu
      rw [Addr.add_lit, Nat.zero_add] at hc
      rw [hc, ← hnx, dg_some hz]
    have hld1b : ld1 < 4294967296 := by rw [← hld1]; exact dg_lt hdend (by omega) _
    have hnxb : nx < 4294967296 := by rw [← hnx]; exact dg_lt hdend (by omega) _
    have hmn : m < n' := by omega
    have hw1 : IntKind.i64.wrap ((n' : Int) - 1) = (j1 : Int) := by rw [IntWalk.i64_in _ (by omega)]; omega
    have hw2 : IntKind.i64.wrap ((n' : Int) - 2) = (m : Int) := by rw [IntWalk.i64_in _ (by omega)]; omega
    have HM := Lib.hid (And.intro hm (And.intro hj1m (And.intro hN (And.intro hK hKN))))
    have HD := Lib.hid (And.intro hnumd (And.intro hnumv (And.intro hdend (And.intro hdenv (And.intro hLl (And.intro hldl (And.intro hld1 (And.intro hnx (And.intro hrd (And.intro ho (And.intro bN (And.intro bD (And.intro hND (And.intro hggd (And.intro hwg (And.intro hwN (And.intro hwD hnw)))))))))))))))))
    clear hm hj1m hN hK hKN hnumd hnumv hdend hdenv hLl hldl hld1 hnx hrd ho bN bD hND hggd hwg hwN hwD hnw hL hld2 hld hld2l hod HR hNaX hNbX hlaX hlbX htX hji
    go_upto_region 9 with fail
    refine Code.new1 ?_
    intro W1 bn hnW1 hzW1
    obtain ⟨gn, hgn⟩ : ∃ k, wc.heap.size = k := ⟨_, rfl⟩
    rw [hgn] at bn
    simp only [hgn]
    have hkN1 := hnW1.cell hkN (fun h => h)
    have hkD1 := hnW1.cell hkD (fun h => h)
    have hk11 := hnW1.cell hk1 (fun h => h)
    have hk01 := hnW1.cell hk0 (fun h => h)
    have hkn1 := bn.cell 0 (u := .int .i64 n') rfl
    have H1 := Lib.hid (And.intro bn (And.intro hnW1 hgn))
    clear hkN hkD hk1 hk0 bn hnW1 hzW1 hgn
    go_quiet (fail)
    obtain ⟨W2, hW2⟩ : ∃ W2, W1.drewN nq = W2 := ⟨_, rfl⟩
    have hn12 : New W1 W2 := by rw [← hW2]; exact (Chg.refl _ _).drewN nq
    simp only [hW2]
    have hkN2 := hn12.cell hkN1 (fun h => h)
    have hkn2 := hn12.cell hkn1 (fun h => h)
    have HN2 := Lib.hid hn12
    clear hkN1 hkD1 hk11 hk01 hkn1 hW2 hn12 hw1 hw2
    go_wp2_with (at_make; refine wpList_mk elemU32 rfl rfl _ _ rfl (n := K) rfl rfl (by omega) (by omega) (by omega) (by simp only [maxLen]; omega) ?_; intro w3 hown3 hg3 hz3; have HMK := Lib.hid (And.intro hown3 (And.intro hg3 hz3)); have hkN3 := hg3.cell hkN2 (fun h => h); have hkn3 := hg3.cell hkn2 (fun h => h); clear hown3 hg3 hz3)
    refine Code.new1 ?_
    intro W bQ hnW hzW
    obtain ⟨gq, hgq⟩ : ∃ k, W2.heap.size = k := ⟨_, rfl⟩
    obtain ⟨gQ, hgQ⟩ : ∃ k, w3.heap.size = k := ⟨_, rfl⟩
    obtain ⟨hmk1, hmk2, hmk3⟩ := HMK.out
    obtain ⟨hm, hj1m, hN, hK, hKN⟩ := HM.out
    obtain ⟨hnumd, hnumv, hdend, hdenv, hLl, hldl, hld1, hnx, hrd, ho, bN, bD, hND, hggd, hwg, hwN, hwD, hnw⟩ := HD.out
    obtain ⟨bn, hnW1, hgn⟩ := H1.out
    obtain ⟨haX, hbX, hNaX, hNbX, hlaX, hlbX, htX⟩ := H0.out
    rw [hgq] at hmk1 bQ
    rw [hgQ] at bQ
    have hnc : New wc W := ((hnW1.new HN2.out).new hmk2).new hnW
    have hDpos : 1 ≤ y * 2 ^ s := by
      have h1 : 1 ≤ y := by
        have := hNbX.nil_iff (by omega)
        rcases Nat.eq_zero_or_pos y with h0 | h0
        · rw [this.2 h0] at hlbX; simp at hlbX; omega
        · exact h0
      exact Nat.mul_pos h1 (Nat.pow_pos (by omega))
    have hsz := hnW1.size
    have hsz2 := HN2.out.size
    have hgNl := bN.lt
    have hgDl := bD.lt
    have hgl := (own_blk_le ho (k := g) (by simp [blk])).2
    have hgnl := bn.lt
    have hgdl : gd < wc.heap.size := by
      obtain ⟨ad, u, hA, hu, hc⟩ := hrd.at_ (k := 0) (by omega)
      injection hA with hA
      subst hA
      exact World.block_lt_of_cell? _ _ (by rw [Addr.add_lit] at hc; exact hc)
    have hgNg : gN ≠ g := fun e => (bN.ne_own ho (by decide)) (by simp [blk, e])
    have hgDg : gD ≠ g := fun e => (bD.ne_own ho (by decide)) (by simp [blk, e])
    have hDC : DvC W g gd gq gN gn gD gQ N n' ld (y * 2 ^ s) := ⟨bN.chg hnc (fun h => h), bn.chg ((HN2.out.new hmk2).new hnW) (fun h => h), bD.chg hnc (fun h => h), by rw [hK]; exact bQ, hrd.new hnc, hdend, hdenv, hDpos, by omega, by omega, by omega⟩
    have hstart : DvW W g gq (x * 2 ^ s) (y * 2 ^ s) N n' K W := by
      refine ⟨L, List.replicate K 0, ?_, own_chg ho hnc (fun _ _ h => h), ?_, Chg.refl _ _⟩
      · have := KnI.start (B := 4294967296) (X := x * 2 ^ s) (D := y * 2 ^ s) (N := N) (n := n') (L := L) (by omega) hLl hnumd hnumv (by
          rw [← hN]
          refine kn_low (by omega) (hNaX.lt (by omega) (by omega)) ?_ (by omega) hnn (by omega) hnumv
          have := val_pos (B := 4294967296) (by omega) hNbX.trim (by intro e; rw [e] at hlbX; simp at hlbX; omega)
          rwa [hlbX, hNbX.val] at this)
        rwa [hK] at this
      · rw [hK]
        have := own_chg hmk1 hnW (fun _ _ h => h)
        rwa [show List.replicate K (Value.int .u32 0) = nv .u32 (List.replicate K 0) by simp [nv]] at this
    have HX := Lib.hid (And.intro hDC (And.intro hstart (And.intro (hnw.new hnc) (And.intro hwg (show w.heap.size ≤ gq by have := hnw.size; omega)))))
    have HTV : Hid (4294967296 ^ (m + 1) ≤ val 4294967296 ld) := by
      show _ ≤ _
      rw [hdenv]
      have := val_pos (B := 4294967296) (by omega) hNbX.trim (by intro e; rw [e] at hlbX; simp at hlbX; omega)
      rw [hlbX, hNbX.val, hm, show m + 2 - 1 = m + 1 by omega] at this
      exact Nat.le_trans this (Nat.le_mul_of_pos_right _ (Nat.pow_pos (by omega)))
    simp only [hgq]
    simp only [hgQ]
    clear hgq hgQ hmk1 hmk2 hmk3 hm hj1m hN hK hKN hnumd hnumv hdend hdenv hLl hldl hld1 hnx hrd ho bN bD hND hggd hwg hwN hwD hnw bn hnW1 hgn haX hbX hNaX hNbX hlaX hlbX htX bQ hnc hDpos hsz hsz2 hgNl hgDl hgl hgnl hgdl hgNg hgDg hDC hstart hnW hzW HMK hkN3 hkn3 hkN2 hkn2
    have hkNW := HX.out.1.bN.cell 0 (u := .slice (some ⟨g, 0, none⟩) N N) rfl
    have hknW := HX.out.1.bn.cell 0 (u := .int .i64 n') rfl
    obtain ⟨X, hX⟩ : ∃ X, x * 2 ^ s = X := ⟨_, rfl⟩
    obtain ⟨D, hD⟩ : ∃ D, y * 2 ^ s = D := ⟨_, rfl⟩
    rw [hX, hD] at HX
    have HXD := Lib.hid (And.intro hX hD)
    clear hX hD
    go_step3
    go_wp2_with fail
    clear hkNW hknW hKi
    go_loopg [16] K (fun k s16 wr => s16 = .int .i64 ((k : Int) - 1) ∧ k ≤ K ∧ Hid (DvW W g gq X D N n' k wr))
    case atStart => exact ⟨rfl, Nat.le_refl _, HX.out.2.1⟩
    case round =>
      obtain ⟨rfl, hkK, HV⟩ := hrel
      obtain ⟨wo, rfl⟩ : ∃ wo : World, wo = wr := ⟨_, rfl⟩
      have hCW := HX.out.1.chg HV.out.choose_spec.choose_spec.2.2.2
      have hkNo := hCW.bN.cell 0 (u := .slice (some ⟨g, 0, none⟩) N N) rfl
      have hkno := hCW.bn.cell 0 (u := .int .i64 n') rfl
      have hkQo := hCW.bQ.cell 0 (u := .slice (some ⟨gq, 0, none⟩) (N - n') (N - n')) rfl
      have HCW := Lib.hid hCW
      clear hCW
      cases gk with
      | zero =>
        obtain ⟨Lc, qc, hKn, hLo, hqo, hcho⟩ := HV.out
        obtain ⟨hm, hj1m, hN, hK, hKN⟩ := HM.out
        have hC0 := HX.out.1
        have hDn : D ≤ 4294967296 ^ n' := by
          have h1 := val_lt hC0.dd
          have h2 := hC0.rd.len
          rw [nv_length] at h2
          rw [hC0.vd, h2] at h1
          omega
        obtain ⟨hv1, hv2⟩ := div_ends HXD.out.1 HXD.out.2 hKn (by omega) hDn hs
        have hne := hC0.ne
        have hnN : n' ≤ N := by omega
        have hT1 : ∀ W', New wo W' → Calls Tryz.prog 53 #[.slice (some ⟨gq, 0, none⟩) (N - n') (N - n')] W' fun e w' => ∃ T, e = .returned (.slice (some ⟨gq, 0, none⟩) T (N - n')) ∧ Hid (WM W' (some ⟨gq, 0, none⟩) T (N - n') (x / y)) ∧ W' = w' := fun W' h =>
          (trim_wm _ _ _ qc W' ((Rd.of_own hqo).new h) hKn.qdigs (Nat.le_refl _) (by omega)).mono fun e w' ⟨T, h1, h2, h3⟩ => ⟨T, h1, by have := h2.out.1; rw [hv1] at this; exact this, h3⟩
        have hLw : ∀ W', New wo W' → Calls Tryz.prog 58 #[.slice (some ⟨g, 0, none⟩) n' N, .int .i64 s] W' fun e w' => e = .returned (.slice (some ⟨g, 0, none⟩) n' N) ∧ Hid (w'.ownsRow g 66 1 (.slice (some ⟨g, 0, none⟩) N N) N (nv .u32 (lwL s n' Lc n')) ∧ Chg (fun k => k = g) wo w') := fun W' h =>
          (lowered_any g n' N s Lc W' (own_chg hLo h (fun _ _ h => h)) hKn.digs hnN (by omega) hs).mono fun e w' ⟨h1, h2⟩ => ⟨h1, h2.out.1, (h.mono (fun _ _ h => h.elim)).trans h2.out.2 (fun _ _ h => h)⟩
        have hT2 : ∀ W', W'.ownsRow g 66 1 (.slice (some ⟨g, 0, none⟩) N N) N (nv .u32 (lwL s n' Lc n')) → Calls Tryz.prog 53 #[.slice (some ⟨g, 0, none⟩) n' N] W' fun e w' => ∃ T, e = .returned (.slice (some ⟨g, 0, none⟩) T N) ∧ Hid (WM W' (some ⟨g, 0, none⟩) T N (x % y)) ∧ W' = w' := fun W' h => by
          have hr := (Rd.of_own h).take (k := n') hnN
          rw [nv_take, low_len' (by rw [hKn.len]; exact hnN)] at hr
          exact (trim_wm _ _ _ _ W' hr (low_digs (by rw [← Nat.pow_add, show s + (32 - s) = 32 by omega]) Nat.one_le_two_pow Nat.one_le_two_pow (hKn.digs.take n')) hnN (by omega)).mono fun e w' ⟨T, h1, h2, h3⟩ => ⟨T, h1, by have := h2.out.1; rw [hv2] at this; exact this, h3⟩
        have HT := Lib.hid (And.intro hT1 (And.intro hLw hT2))
        have HEND := Lib.hid (And.intro hcho (And.intro HX.out.2.2 hne))
        have hup : ∀ W, (Instr.slice 27 (.slice (some ⟨g, 0, none⟩) N N) none (some (.int .i64 (n' : Int))) none).run Tryz.prog W = .ok (.slice (some ⟨g, 0, none⟩) n' N) W := fun W => run_upto elemU32 .i64 (some ⟨g, 0, none⟩) N N n' (n' : Int) rfl hnN W
        clear hKn hLo hqo hcho hm hj1m hN hK hKN hC0 hDn hv1 hv2 hne hT1 hLw hT2
        have hneg : decide ((0 : Int) ≤ ((0 : Nat) : Int) - 1) = false := by simp
        rw [show (((0 : Nat) : Int) - 1) = -1 by rfl]
        go_wp2_with fail
        go_region_held3 (fun w' => w'.cell? ⟨gQ, 0, none⟩ = some (.slice (some ⟨gq, 0, none⟩) (N - n') (N - n')) ∧ w'.cell? ⟨gN, 0, none⟩ = some (.slice (some ⟨g, 0, none⟩) N N) ∧ w'.cell? ⟨gn, 0, none⟩ = some (.int .i64 n')) (first | exact ⟨by assumption, by assumption, by assumption⟩)
          (first
            | (go_at_call 53; (with_reducible refine (HT.out.1 _ ?_).mono ?_); exact (Chg.refl _ _).drew; rintro e w4 ⟨T1, rfl, HW4, rfl⟩)
            | (go_at_call 58; (with_reducible refine (HT.out.2.1 _ ?_).mono ?_); exact (Chg.refl _ _).drew; rintro e w5 ⟨rfl, H5⟩; have hd1 := H5.out.2.cell hkQo (by have := HEND.out.2.2; dsimp only; omega); have hd2 := H5.out.2.cell hkNo (by have := HEND.out.2.2; dsimp only; omega); have hd3 := H5.out.2.cell hkno (by have := HEND.out.2.2; dsimp only; omega))
            | (go_at_call 53; (with_reducible refine (HT.out.2.2 _ H5.out.1).mono ?_); rintro e w6 ⟨T2, rfl, HW6, rfl⟩))
        all_goals
          clear hd1 hd2 hd3 hkNo hkno hkQo hup
          go_wp2_with fail
          (try rw [Exit.noGoto_ret])
          go_ret2
          obtain ⟨hcho, ⟨hnW, hg1, hg2⟩, hne⟩ := HEND.out
          have hc5 : Chg (fun k => k = g) wo.drew w5 := ⟨H5.out.2.os, H5.out.2.tape, H5.out.2.output, H5.out.2.size, H5.out.2.block⟩
          refine ⟨_, _, _, _, _, _, rfl, HW4.out.chg hc5 (fun k hk e => by simp [blk] at hk; omega), HW6.out, ?_⟩
          refine hnW.trans (T := fun k => k = g ∨ k = gq) (hcho.trans H5.out.2 (fun _ _ h => .inl h)) (fun k hk e => by omega)
      | succ j =>
        have hj0 : (((j + 1 : Nat) : Int) - 1) = (j : Int) := by omega
        rw [hj0]
        clear hj0
        obtain ⟨Lc, qc, hKn, hLo, hqo, hcho⟩ := HV.out
        obtain ⟨hm, hj1m, hN, hK, hKN⟩ := HM.out
        obtain ⟨hnumd, hnumv, hdend, hdenv, hLl, hldl, hld1, hnx, hrd, ho, bN, bD, hND, hggd, hwg, hwN, hwD, hnw⟩ := HD.out
        have hjn : j + (n' + 1) ≤ N := by omega
        obtain ⟨U, hU⟩ : ∃ U, val 4294967296 ((Lc.drop j).take (n' + 1)) = U := ⟨_, rfl⟩
        have hes := hKn.esb (m := m) (b := ld) (by omega) hm hdend hldl HX.out.1.vd (top_of_val hdend (by omega) HTV.out) hU
        have hu2 := own_cell hLo (i := j + n') (u := .int .u32 (dg Lc (j + n') : Nat)) (by rw [nv, List.getElem?_map, dig_at (by have := hKn.len; omega)]; rfl)
        have hu1 := own_cell hLo (i := j + j1) (u := .int .u32 (dg Lc (j + j1) : Nat)) (by rw [nv, List.getElem?_map, dig_at (by have := hKn.len; omega)]; rfl)
        have hu0 := own_cell hLo (i := j + m) (u := .int .u32 (dg Lc (j + m) : Nat)) (by rw [nv, List.getElem?_map, dig_at (by have := hKn.len; omega)]; rfl)
        have hb2 := dg_lt hKn.digs (by omega) (j + n')
        have hb1 := dg_lt hKn.digs (by omega) (j + j1)
        have hb0 := dg_lt hKn.digs (by omega) (j + m)
        rw [← hm, ← hj1m, hld1, hnx] at hes
        obtain ⟨u2, hu2e⟩ : ∃ d, dg Lc (j + n') = d := ⟨_, rfl⟩
        obtain ⟨u1, hu1e⟩ : ∃ d, dg Lc (j + j1) = d := ⟨_, rfl⟩
        obtain ⟨u0, hu0e⟩ : ∃ d, dg Lc (j + m) = d := ⟨_, rfl⟩
        obtain ⟨a2, ha2⟩ : ∃ a, j + n' = a := ⟨_, rfl⟩
        obtain ⟨a1, ha1⟩ : ∃ a, j + j1 = a := ⟨_, rfl⟩
        obtain ⟨a0, ha0⟩ : ∃ a, j + m = a := ⟨_, rfl⟩
        rw [hu2e] at hu2 hb2 hes
        rw [hu1e] at hu1 hb1 hes
        rw [hu0e] at hu0 hb0 hes
        rw [ha2] at hu2
        rw [ha1] at hu1
        rw [ha0] at hu0
        obtain ⟨T, hT⟩ : ∃ T, u2 * 4294967296 + u1 = T := ⟨_, rfl⟩
        rw [hT] at hes
        have hld11 : 1 ≤ ld1 := hes.ld1
        obtain ⟨Q, hQ⟩ : ∃ Q, U / D = Q := ⟨_, rfl⟩
        rw [hQ] at hes
        have hor : bits .or .u64 ((u2 : Int) * 4294967296) (u1 : Int) = (T : Int) := by rw [shl_or32 u2 u1 hb2 hb1, hT]
        have hTb : T < 18446744073709551616 := by omega
        have hi2 : (j : Int) + (n' : Int) = (a2 : Int) := by omega
        have hi1 : (a2 : Int) - 1 = (a1 : Int) := by omega
        have hi0 : (a2 : Int) - 2 = (a0 : Int) := by omega
        have haN : a2 < N ∧ a1 < N ∧ a0 < N := by omega
        have hw2 : IntKind.i64.wrap ((j : Int) + (n' : Int)) = (a2 : Int) := by rw [IntWalk.i64_in _ (by omega)]; omega
        have hw1 : IntKind.i64.wrap ((a2 : Int) - 1) = (a1 : Int) := by rw [IntWalk.i64_in _ (by omega)]; omega
        have HE := Lib.hid (And.intro hKn (And.intro hLo (And.intro hqo (And.intro hcho (And.intro hU (And.intro hQ (And.intro hes hT)))))))
        have HA2 := Lib.hid (And.intro hi2 hi0)
        clear hKn hLo hqo hcho hm hj1m hN hK hKN hnumd hnumv hdend hdenv hLl hldl hld1 hnx hrd ho bN bD hND hggd hwg hwN hwD hnw hU hes hu2e hu1e hu0e ha2 ha1 ha0 hT hQ hi2 hi1 hi0
        go_wp2_with fail
        go_quiet (fail)
        obtain ⟨wp, hwp⟩ : ∃ wp, wo.drewN nq = wp := ⟨_, rfl⟩
        have hnp : New wo wp := by rw [← hwp]; exact (Chg.refl _ _).drewN nq
        simp only [hwp]
        obtain ⟨dq, hdq⟩ : ∃ d, T / ld1 = d := ⟨_, rfl⟩
        obtain ⟨rq, hrq⟩ : ∃ d, T % ld1 = d := ⟨_, rfl⟩
        have hdv2 : (T : Int) / (ld1 : Int) = (dq : Int) := by rw [← hdq]; simp
        have hmd2 : (T : Int) % (ld1 : Int) = (rq : Int) := by rw [← hrq]; simp
        have hdv : (T : Int).tdiv (ld1 : Int) = (dq : Int) := by rw [Int.tdiv_eq_ediv_of_nonneg (by omega), hdv2]
        have hmd : (T : Int).tmod (ld1 : Int) = (rq : Int) := by rw [Int.tmod_eq_emod_of_nonneg (by omega), hmd2]
        have hdqb : dq < 18446744073709551616 := by rw [← hdq]; exact Nat.lt_of_le_of_lt (Nat.div_le_self _ _) hTb
        have hrqb : rq < 4294967296 := by rw [← hrq]; exact Nat.lt_trans (Nat.mod_lt _ (by omega)) hld1b
        have HQR := Lib.hid (And.intro hdq hrq)
        clear hdq hrq
        have hld0 : ((ld1 : Int) == 0) = false := by simp; omega
        have hld0' : ¬ (ld1 : Int) = 0 := by omega
        have HNP := Lib.hid hnp
        have HU0 := Lib.hid hu0
        clear hnp hwp hw2 hw1 hkNo hkno hkQo hu2 hu1 hu0 hor
        go_wp2_with fail
        go_quiet (fail)
        obtain ⟨wq, hwq⟩ : ∃ wq, wp.drewN nq = wq := ⟨_, rfl⟩
        have hnq : New wo wq := HNP.out.new (by rw [← hwq]; exact (Chg.refl _ _).drewN nq)
        simp only [hwq]
        have hset : ∀ dgt, dgt < 4294967296 → Q ≤ dgt → dgt ≤ Q + 1 → Calls Tryz.prog 56 #[.int .i64 j, .int .u64 dgt, .pointer (some ⟨gN, 0, none⟩), .pointer (some ⟨gn, 0, none⟩), .pointer (some ⟨gD, 0, none⟩), .pointer (some ⟨gQ, 0, none⟩)] wq fun e w' => (∃ v, e = .returned v) ∧ Hid (DvW W g gq X D N n' j w') := fun dgt h1 h2 h3 => by
          obtain ⟨hKn, hLo, hqo, hcho, hU, hQ, hes, hT⟩ := HE.out
          exact settle_any wq HX.out.1 hKn (own_chg hLo hnq (fun _ _ h => h)) (own_chg hqo hnq (fun _ _ h => h)) (hcho.new hnq) hjn hU hQ h1 h2 h3
        have hkNq := (HCW.out.bN.chg hnq (fun h => h)).cell 0 (u := .slice (some ⟨g, 0, none⟩) N N) rfl
        have hknq := (HCW.out.bn.chg hnq (fun h => h)).cell 0 (u := .int .i64 n') rfl
        have hu0q := hnq.cell HU0.out (fun h => h)
        have HSET := Lib.hid hset
        have HES := Lib.hid (EsI.start HE.out.2.2.2.2.2.2.1 (Nat.one_le_pow _ _ (by omega)))
        rw [HQR.out.1, HQR.out.2] at HES
        clear hwq hset hnq hdv2 hmd2 hdv hmd hld0 hld0'
        go_wp2_with fail
        go_loopg [18, 19] dq (fun d s18 s19 wi => ∃ r : Nat, s18 = .int .u64 (d : Int) ∧ s19 = .int .u64 (r : Int) ∧ r < 4294967296 ∧ d < 18446744073709551616 ∧ Hid (EsI 4294967296 T ld1 nx u0 Q d r) ∧ wi = wq)
        case atStart => exact ⟨rq, rfl, rfl, hrqb, hdqb, HES, rfl⟩
        case round =>
          obtain ⟨r, rfl, rfl, hrb, hdb, HI, rfl⟩ := hrel
          obtain ⟨M, hM⟩ : ∃ M, gk * nx = M := ⟨_, rfl⟩
          obtain ⟨R, hR⟩ : ∃ R, r * 4294967296 + u0 = R := ⟨_, rfl⟩
          have hRb : R < 18446744073709551616 := by omega
          have hor2 : bits .or .u64 ((r : Int) * 4294967296) (u0 : Int) = (R : Int) := by rw [shl_or32 r u0 hrb hb0, hR]
          have hw2 : (j : Int) + (n' : Int) = (a2 : Int) := HA2.out.1
          have hw0 : (a2 : Int) - 2 = (a0 : Int) := HA2.out.2
          by_cases hB : gk < 4294967296
          · have hsh : (gk : Int) / 4294967296 = 0 := by omega
            have hMb : M < 18446744073709551616 := by
              rw [← hM]
              exact Nat.lt_of_le_of_lt (Nat.mul_le_mul (show gk ≤ 4294967295 by omega) (show nx ≤ 4294967295 by omega)) (by decide)
            have hMi : (gk : Int) * (nx : Int) = (M : Int) := by rw [← hM]; simp
            by_cases hle : M ≤ R
            · have hfin := HI.out.exit HE.out.2.2.2.2.2.2.1 (.inl ⟨hB, by omega⟩)
              have hst := HSET.out gk hfin.1 hfin.2.1 hfin.2.2
              have HST := Lib.hid hst
              have hgt : decide ((R : Int) < (M : Int)) = false := by simp; omega
              have hgt' : decide (R < M) = false := by simp; omega
              clear hst hM hR hfin
              go_wp2_with fail
              refine HST.out.mono ?_
              rintro e w5 ⟨⟨ve, rfl⟩, H5⟩
              go_wp2_with fail
              go_roundg j
              case rel => exact ⟨rfl, by omega, H5⟩
              all_goals omega
            · obtain ⟨hd1, hIn⟩ := HI.out.down HE.out.2.2.2.2.2.2.1 (.inr (by omega))
              obtain ⟨d', hd'⟩ : ∃ d, gk - 1 = d := ⟨_, rfl⟩
              rw [hd'] at hIn
              obtain ⟨r2, hr2⟩ : ∃ d, r + ld1 = d := ⟨_, rfl⟩
              rw [hr2] at hIn
              have hdi : (gk : Int) - 1 = (d' : Int) := by omega
              have hri : (r : Int) + (ld1 : Int) = (r2 : Int) := by omega
              have hdlt : d' < gk := by omega
              have hr2b : r2 < 8589934592 := by omega
              have HIN := Lib.hid hIn
              have hgt : (R : Int) < (M : Int) := by omega
              have hgt' : R < M := by omega
              by_cases hover : r2 < 4294967296
              · have hs2 : (r2 : Int) / 4294967296 = 0 := by omega
                clear hIn hd' hr2 hM hR
                go_wp2_with fail
                go_roundg d'
                case rel => exact ⟨r2, rfl, rfl, hover, by omega, HIN, rfl⟩
                all_goals omega
              · have hs2 : (r2 : Int) / 4294967296 = 1 := by omega
                have hfin := hIn.exit HE.out.2.2.2.2.2.2.1 (.inr (by omega))
                have hst := HSET.out d' hfin.1 hfin.2.1 hfin.2.2
                have HST := Lib.hid hst
                clear hIn hd' hr2 hM hR hst hfin
                go_wp2_with fail
                refine HST.out.mono ?_
                rintro e w5 ⟨⟨ve, rfl⟩, H5⟩
                go_wp2_with fail
                go_roundg j
                case rel => exact ⟨rfl, by omega, H5⟩
                all_goals omega
          · obtain ⟨hd1, hIn⟩ := HI.out.down HE.out.2.2.2.2.2.2.1 (.inl (by omega))
            obtain ⟨d', hd'⟩ : ∃ d, gk - 1 = d := ⟨_, rfl⟩
            rw [hd'] at hIn
            obtain ⟨r2, hr2⟩ : ∃ d, r + ld1 = d := ⟨_, rfl⟩
            rw [hr2] at hIn
            have hdi : (gk : Int) - 1 = (d' : Int) := by omega
            have hri : (r : Int) + (ld1 : Int) = (r2 : Int) := by omega
            have hdlt : d' < gk := by omega
            have hr2b : r2 < 8589934592 := by omega
            have HIN := Lib.hid hIn
            obtain ⟨hq, hhq⟩ : ∃ d, gk / 4294967296 = d := ⟨_, rfl⟩
            have hsh : (gk : Int) / 4294967296 = (hq : Int) := by omega
            have hne : ((hq : Int) != 0) = true := by simp; omega
            have hq0 : ¬ hq = 0 := by omega
            clear hhq
            by_cases hover : r2 < 4294967296
            · have hs2 : (r2 : Int) / 4294967296 = 0 := by omega
              clear hIn hd' hr2 hM hR
              go_wp2_with fail
              go_roundg d'
              case rel => exact ⟨r2, rfl, rfl, hover, by omega, HIN, rfl⟩
              all_goals omega
            · have hs2 : (r2 : Int) / 4294967296 = 1 := by omega
              have hfin := hIn.exit HE.out.2.2.2.2.2.2.1 (.inr (by omega))
              have hst := HSET.out d' hfin.1 hfin.2.1 hfin.2.2
              have HST := Lib.hid hst
              clear hIn hd' hr2 hM hR hst hfin
              go_wp2_with fail
              refine HST.out.mono ?_
              rintro e w5 ⟨⟨ve, rfl⟩, H5⟩
              go_wp2_with fail
              go_roundg j
              case rel => exact ⟨rfl, by omega, H5⟩
              all_goals omega

end Go.Proofs.YtgofjkppeobjfaaGreatDoor

namespace Go.Proofs.YtgofjkppeobjfaaGreatDoor
set_option linter.unusedVariables false
open Go.RowKit Go.Mem Go.Dig Go.Pure

set_option maxRecDepth 100000 in
set_option maxHeartbeats 1000000 in
theorem divMag_lt (A : Option Addr) (n c : Nat) (A' : Option Addr) (n' c' : Nat) (x y : Nat) (w : World) (hx : WM w A n c x) (hy : WM w A' n' c' y) (hlt : x < y) :
    Calls Tryz.prog 32 #[.slice A n c, .slice A' n' c'] w fun e w' => ∃ Q nq cq R nr cr, e = .returned (.tuple #[.slice Q nq cq, .slice R nr cr]) ∧ Hid (WM w' Q nq cq (x / y) ∧ WM w' R nr cr (x % y) ∧ New w w') := by
  have hcm := cmpMag_any A n c A' n' c' x y w hx hy
  rw [cmpI_lt (by omega)] at hcm
  have HC := Lib.hid (And.intro hcm hx)
  clear hcm hx hy
  go_enter Tryz.func32, Tryz.ntmps32
  go_wp2_with fail
  go_step3
  go_wp2_with fail
  refine HC.out.1.mono ?_
  rintro e w1 ⟨rfl, q1, hq1⟩
  have HN : Hid (New w w1) := by rw [hq1]; exact (Chg.refl _ _).drewN q1
  clear hq1
  go_wp2_with fail
  (try rw [Exit.noGoto_ret])
  go_ret2
  exact ⟨_, _, _, _, _, _, rfl, by rw [Nat.div_eq_of_lt hlt]; exact WM.zero _, by rw [Nat.mod_eq_of_lt hlt]; exact HC.out.2.new HN.out, HN.out⟩

set_option maxRecDepth 100000 in
set_option maxHeartbeats 1000000 in
theorem divMag_one (A : Option Addr) (n c : Nat) (A' : Option Addr) (c' : Nat) (x y : Nat) (w : World) (hx : WM w A n c x) (hy : WM w A' 1 c' y) (hn : n ≤ 900000) (hle : y ≤ x) :
    Calls Tryz.prog 32 #[.slice A n c, .slice A' 1 c'] w fun e w' => ∃ Q nq cq R nr cr, e = .returned (.tuple #[.slice Q nq cq, .slice R nr cr]) ∧ Hid (WM w' Q nq cq (x / y) ∧ WM w' R nr cr (x % y) ∧ New w w') := by
  have hcm := cmpMag_any A n c A' 1 c' x y w hx hy
  obtain ⟨lb, hb, hd1, hd2, hNb⟩ := hy
  have hlb : lb.length = 1 := by have := hb.len; rwa [nv_length] at this
  obtain ⟨bd, u, rfl, hu, hcu⟩ := hb.at_ (show 0 < 1 by omega)
  obtain ⟨z, hz, rfl⟩ := nv_at hu
  have hzy : z = y := by
    obtain ⟨d, rfl⟩ := List.length_eq_one_iff.1 hlb
    have := hNb.val
    simp [val_cons, val_nil] at this hz
    omega
  subst hzy
  have hz1 : 1 ≤ z := by
    have := top_pos hNb hlb (by omega)
    rw [show 1 - 1 = 0 by rfl, dg_some hz] at this
    exact this
  have hzb : z < 4294967296 := hNb.digs.at_ hz
  have hcv : decide (cmpI (x : Int) (z : Int) < 0) = false := by
    unfold cmpI
    rw [if_neg (by omega)]
    split <;> decide
  generalize cmpI (x : Int) (z : Int) = cv at *
  have HC := Lib.hid (And.intro hcm hx)
  rw [show bd.add 0 = bd by simp [Addr.add]] at hcu
  clear hcm hx hb hNb hlb hu hz
  go_enter Tryz.func32, Tryz.ntmps32
  go_wp2_with fail
  go_step3
  go_wp2_with fail
  refine HC.out.1.mono ?_
  rintro e w1 ⟨rfl, q1, hq1⟩
  have hn1 : New w w1 := by rw [hq1]; exact (Chg.refl _ _).drewN q1
  have hcu1 := hn1.cell hcu (fun h => h)
  have HN := Lib.hid hn1
  clear hq1 hn1 hcu
  go_wp2_with fail
  refine (divWord_any A n c x z w1 (HC.out.2.new HN.out) (by omega) hz1 hzb).mono ?_
  rintro e w2 ⟨l, g, rfl, H2⟩
  clear hcu1
  obtain ⟨r, hr⟩ : ∃ r, x % z = r := ⟨_, rfl⟩
  rw [hr]
  have hrb : r < 4294967296 := by rw [← hr]; exact Nat.lt_trans (Nat.mod_lt _ (by omega)) hzb
  have HR := Lib.hid hr
  clear hr
  go_wp2_with fail
  refine (trim_wm _ _ _ l w2 H2.out.1 H2.out.2.1 (Nat.le_refl _) (by omega)).mono ?_
  rintro e w3 ⟨T1, rfl, HT1, rfl⟩
  go_wp2_with fail
  refine Calls.new1 ?_
  intro W3 b3 hn3 hz3
  have hr3 : Rd W3 (some ⟨w2.heap.size, 0, none⟩) 1 (nv .u32 [r]) := ⟨rfl, fun _ => ⟨_, rfl, fun j u hu => by
    match j, hu with
    | 0, hu =>
      simp [nv] at hu
      subst hu
      rw [Addr.add_lit]
      exact b3.cell 0 rfl⟩⟩
  refine (trim_wm _ _ _ [r] W3 hr3 (Digs.cons hrb (Digs.nil _)) (Nat.le_refl _) (by omega)).mono ?_
  rintro e w4 ⟨T2, rfl, HT2, rfl⟩
  have HF := Lib.hid hn3
  clear hr3 b3 hn3 hz3
  go_wp2_with fail
  (try rw [Exit.noGoto_ret])
  go_ret2
  refine ⟨_, _, _, _, _, _, rfl, ?_, ?_, ?_⟩
  · have := HT1.out.1.new HF.out
    rwa [H2.out.2.2.1] at this
  · have := HT2.out.1
    rw [show val 4294967296 [r] = r by simp [val_cons, val_nil]] at this
    rwa [← HR.out] at this
  · exact (HN.out.new H2.out.2.2.2.2).new HF.out

theorem divMag_any (A : Option Addr) (n c : Nat) (A' : Option Addr) (n' c' : Nat) (x y : Nat) (w : World) (hx : WM w A n c x) (hy : WM w A' n' c' y) (hn : n ≤ 900000) (hy1 : 1 ≤ y) :
    Calls Tryz.prog 32 #[.slice A n c, .slice A' n' c'] w fun e w' => ∃ Q nq cq R nr cr, e = .returned (.tuple #[.slice Q nq cq, .slice R nr cr]) ∧ Hid (WM w' Q nq cq (x / y) ∧ WM w' R nr cr (x % y) ∧ New w w') := by
  rcases Nat.lt_or_ge x y with h | h
  · exact divMag_lt A n c A' n' c' x y w hx hy h
  · rcases (show n' = 0 ∨ n' = 1 ∨ 2 ≤ n' by omega) with h0 | h0 | h0
    · have := (hy.pos).1 h0; omega
    · subst h0; exact divMag_one A n c A' c' x y w hx hy hn h
    · exact divMag_long A n c A' n' c' x y w hx hy hn h0 h
end Go.Proofs.YtgofjkppeobjfaaGreatDoor

namespace Go.Proofs.YtgofjkppeobjfaaGreatDoor
set_option linter.unusedVariables false
open Go.RowKit Go.Mem Go.Dig Go.Pure

theorem WI.store22 {W : World} {v : Value} {z : Int} {g g' : Nat} {t t' : TypeId} {a b c d : Value} (hm : WI W v z) (h : Blk W g t #[a, b]) (h' : Blk W g' t' #[c, d]) (hne : g ≠ g') (hi : NoInt [a, b]) (hi' : NoInt [c, d]) (p q r u : Value) : WI (set22 W g g' p q r u) v z := by
  have h1 : WI ((W.setCell ⟨g, 0, none⟩ p).setCell ⟨g, 1, none⟩ q) v z := hm.store h hi (Chg.at2 _ _ _ _)
  have h2 : Blk ((W.setCell ⟨g, 0, none⟩ p).setCell ⟨g, 1, none⟩ q) g' t' #[c, d] := (h'.far (p := ⟨g, 0, none⟩) (fun e => hne e.symm) _).far (p := ⟨g, 1, none⟩) (fun e => hne e.symm) _
  exact h1.store h2 hi' (Chg.at2 _ _ _ _)
theorem WM.len_mono {w w' : World} {A A' : Option Addr} {n c m n' c' m' : Nat} (h : WM w A n c m) (h' : WM w' A' n' c' m') (hm : m ≤ m') : n ≤ n' := by
  obtain ⟨l, h1, _, _, h2⟩ := h
  obtain ⟨l', h1', _, _, h2'⟩ := h'
  have e1 := h1.len
  have e2 := h1'.len
  rw [nv_length] at e1 e2
  rcases Nat.lt_or_ge n' n with hlt | hge
  · have := h2'.len_lt (by omega) h2 (by omega); omega
  · exact hge
theorem noInt2 (s : Bool) (A : Option Addr) (n c : Nat) : NoInt [Value.bool s, Value.slice A n c] := fun k z h => by simp at h

set_option maxRecDepth 100000 in
set_option maxHeartbeats 2000000 in
theorem wdiv_wm (s t : Bool) (A : Option Addr) (n c : Nat) (A' : Option Addr) (n' c' : Nat) (X Y : Nat) (w : World) (hx : WM w A n c X) (hy : WM w A' n' c' Y) (hn : n ≤ 900000) (hn' : n' ≤ 900000) (hY : 1 ≤ Y) :
    Calls Tryz.prog 13 #[.agg #[.bool s, .slice A n c], .agg #[.bool t, .slice A' n' c']] w fun e w' => ∃ s1 A1 n1 c1 s2 A2 n2 c2, e = .returned (.tuple #[.agg #[.bool s1, .slice A1 n1 c1], .agg #[.bool s2, .slice A2 n2 c2], .int .i64 0]) ∧ Hid (WI w' (.agg #[.bool s1, .slice A1 n1 c1]) (sg s X / sg t Y) ∧ WI w' (.agg #[.bool s2, .slice A2 n2 c2]) (sg s X % sg t Y) ∧ New w w') := by
  obtain ⟨ZQ, hZQ⟩ : ∃ Z, sg s X / sg t Y = Z := ⟨_, rfl⟩
  obtain ⟨ZR, hZR⟩ : ∃ Z, sg s X % sg t Y = Z := ⟨_, rfl⟩
  rw [hZQ, hZR]
  have hn0 : ¬ n' = 0 := fun h => by have := hy.pos.1 h; omega
  have hn0b : ((n' : Int) == 0) = false := by simp; omega
  have HZ := Lib.hid (And.intro hZQ hZR)
  have H0 := Lib.hid (And.intro hx hy)
  clear hx hy hZQ hZR
  go_enter Tryz.func13, Tryz.ntmps13
  go_wp2_with fail
  refine Calls.new4 ?_
  intro W hb1 hb2 hb3 hb4 hnW hzW
  refine (divMag_any A n c A' n' c' X Y W (H0.out.1.new hnW) (H0.out.2.new hnW) hn hY).mono ?_
  rintro e w1 ⟨Q, nq, cq, R, nr, cr, rfl, H1⟩
  obtain ⟨hwq, hwr, hn1⟩ := H1.out
  have hr0 := hwr.pos
  have hk1 := hb1.chg hn1 (fun h => h)
  have hk2 := hb2.chg hn1 (fun h => h)
  have hk3 := hb3.chg hn1 (fun h => h)
  have hk4 := hb4.chg hn1 (fun h => h)
  have ha0 := hk1.cell 0 (u := .bool s) rfl
  have hb0 := hk2.cell 0 (u := .bool t) rfl
  have hb1' := hk2.cell 1 (u := .slice A' n' c') rfl
  have HB := Lib.hid (And.intro hk1 (And.intro hk2 (And.intro hk3 (And.intro hk4 (hnW.new hn1)))))
  clear hb1 hb2 hb3 hb4 hnW hzW hn1 H1 hk1 hk2 hk3 hk4
  by_cases hcase : s = true ∧ X % Y ≠ 0
  · obtain ⟨hs, hrest⟩ := hcase
    subst hs
    have hnr : (0 : Int) < (nr : Int) := by
      rcases Nat.eq_zero_or_pos nr with h | h
      · exact absurd (hr0.1 h) hrest
      · omega
    have hnr' : 0 < nr := by omega
    have HWQ := Lib.hid (And.intro hwq hwr)
    have HRE := Lib.hid hrest
    clear hwq hwr hr0 hrest
    go_wp2_with fail
    refine Calls.new1 ?_
    intro W5 hb5 hn5 hz5
    have hone : WM W5 (some ⟨w1.heap.size, 0, none⟩) 1 1 1 := ⟨[1], ⟨rfl, fun _ => ⟨_, rfl, fun j u hu => by
      match j, hu with
      | 0, hu =>
        simp [nv] at hu
        subst hu
        rw [Addr.add_lit]
        exact hb5.cell 0 rfl⟩⟩, Nat.le_refl _, by omega, ⟨Digs.cons (by omega) (Digs.nil _), by simp [Trim], by simp [val_cons, val_nil]⟩⟩
    have hnq : nq ≤ 1000000 := Nat.le_trans (HWQ.out.1.len_mono H0.out.1 (Nat.div_le_self _ _)) (by omega)
    refine (addMag_any Q nq cq _ 1 1 (X / Y) 1 W5 (HWQ.out.1.new hn5) hone hnq (by omega)).mono ?_
    rintro e w2 ⟨Q2, nq2, cq2, rfl, H2⟩
    obtain ⟨hwq2, hn2⟩ := H2.out
    have hn12 := hn5.new hn2
    have hb1'' := hn12.cell hb1' (fun h => h)
    have ha0' := hn12.cell ha0 (fun h => h)
    have hb0' := hn12.cell hb0 (fun h => h)
    have HN2 := Lib.hid (And.intro hn12 hwq2)
    clear hb5 hn5 hz5 hone hnq H2 hwq2 hn2 hn12 ha0 hb0 hb1'
    go_wp2_with fail
    refine (subMag_any A' n' c' R nr cr Y (X % Y) w2 ((H0.out.2.new (HB.out.2.2.2.2)).new HN2.out.1) (HWQ.out.2.new HN2.out.1) (Nat.le_of_lt (Nat.mod_lt _ (by omega))) (by omega)).mono ?_
    rintro e w3 ⟨R2, nr2, cr2, rfl, H3⟩
    obtain ⟨hwr2, hn3⟩ := H3.out
    have ha3 := hn3.cell ha0' (fun h => h)
    have hb3 := hn3.cell hb0' (fun h => h)
    have HN3 := Lib.hid (And.intro (HN2.out.1.new hn3) (And.intro (HN2.out.2.new hn3) hwr2))
    clear H3 hwr2 hn3 ha0' hb0' hb1''
    go_wp2_with fail
    refine (made_h (!t) Q2 nq2 cq2 _ w3 HN3.out.2.1).mono ?_
    rintro e w4 ⟨s4, A4, n4, c4, rfl, HI4, HN4⟩
    clear ha3 hb3
    go_wp2_with fail
    refine (made_h false R2 nr2 cr2 _ w4 (HN3.out.2.2.new HN4.out)).mono ?_
    rintro e w5 ⟨s5, A5, n5, c5, rfl, HI5, HN5⟩
    have hn15 := (HN3.out.1.new HN4.out).new HN5.out
    have hk3 := HB.out.2.2.1.chg hn15 (fun h => h)
    have hk4 := HB.out.2.2.2.1.chg hn15 (fun h => h)
    have g30 := hk3.cell 0 rfl
    have g31 := hk3.cell 1 rfl
    have g40 := hk4.cell 0 rfl
    have g41 := hk4.cell 1 rfl
    have f30 := hk3.frozen 0
    have f31 := hk3.frozen 1
    have f40 := hk4.frozen 0
    have f41 := hk4.frozen 1
    have HK := Lib.hid (And.intro hk3 (And.intro hk4 hn15))
    clear hk3 hk4 hn15
    go_wp2
    obtain ⟨hk3, hk4, hn15⟩ := HK.out
    have hb22 := blk22 hk3 hk4 (by omega) (.bool s4) (.slice A4 n4 c4) (.bool s5) (.slice A5 n5 c5)
    obtain ⟨e1, e2⟩ := ediv_neg' t X Y hY HRE.out
    rw [e1] at HZ
    rw [e2] at HZ
    have i4 := HI4.out.new HN5.out
    have i5 := HI5.out
    rw [show sg (!t) (X / Y + 1) = sg (true != t) ((X / Y + 1 : Nat)) by cases t <;> rfl, HZ.out.1] at i4
    rw [show sg false (Y - X % Y) = ((Y - X % Y : Nat) : Int) by rfl, HZ.out.2] at i5
    refine bodyPost_ret (res_cct rfl _ rfl (aggInt.load hb22.1) rfl (aggInt.load hb22.2) rfl) rfl ⟨s4, A4, n4, c4, s5, A5, n5, c5, rfl, i4.store22 hk3 hk4 (by omega) (noInt2 _ _ _ _) (noInt2 _ _ _ _) _ _ _ _, i5.store22 hk3 hk4 (by omega) (noInt2 _ _ _ _) (noInt2 _ _ _ _) _ _ _ _, ?_⟩
    exact Chg.owned (HB.out.2.2.2.2.new hn15) (chg22 _ _ _ _ _ _ _) (fun k e => by omega)
  · have hor : s = false ∨ X % Y = 0 := by
      cases s
      · exact .inl rfl
      · right
        rcases Nat.eq_zero_or_pos (X % Y) with h | h
        · exact h
        · exact absurd ⟨rfl, by omega⟩ hcase
    obtain ⟨e1, e2⟩ := ediv_pos' s t X Y hY hor
    rw [e1, e2] at HZ
    have HWQ := Lib.hid (And.intro hwq hwr)
    have hsplit : s = false ∨ (s = true ∧ nr = 0) := by
      cases s
      · exact .inl rfl
      · exact .inr ⟨rfl, hr0.2 (hor.resolve_left (by simp))⟩
    clear hwq hwr hr0 hcase hor e1 e2 hb1'
    rcases hsplit with hs | ⟨hs, hnr⟩
    · subst hs
      go_wp2_with fail
      refine (made_h t Q nq cq _ w1 HWQ.out.1).mono ?_
      rintro e w4 ⟨s4, A4, n4, c4, rfl, HI4, HN4⟩
      clear ha0 hb0
      go_wp2_with fail
      refine (made_h false R nr cr _ w4 (HWQ.out.2.new HN4.out)).mono ?_
      rintro e w5 ⟨s5, A5, n5, c5, rfl, HI5, HN5⟩
      have hn15 := HN4.out.new HN5.out
      have hk3 := HB.out.2.2.1.chg hn15 (fun h => h)
      have hk4 := HB.out.2.2.2.1.chg hn15 (fun h => h)
      have g30 := hk3.cell 0 rfl
      have g31 := hk3.cell 1 rfl
      have g40 := hk4.cell 0 rfl
      have g41 := hk4.cell 1 rfl
      have f30 := hk3.frozen 0
      have f31 := hk3.frozen 1
      have f40 := hk4.frozen 0
      have f41 := hk4.frozen 1
      have HK := Lib.hid (And.intro hk3 (And.intro hk4 hn15))
      clear hk3 hk4 hn15
      go_wp2
      obtain ⟨hk3, hk4, hn15⟩ := HK.out
      have hb22 := blk22 hk3 hk4 (by omega) (.bool s4) (.slice A4 n4 c4) (.bool s5) (.slice A5 n5 c5)
      have i4 := HI4.out.new HN5.out
      have i5 := HI5.out
      rw [show sg t (X / Y) = sg (false != t) ((X / Y : Nat)) by cases t <;> rfl, HZ.out.1] at i4
      rw [show sg false (X % Y) = ((X % Y : Nat) : Int) by rfl, HZ.out.2] at i5
      refine bodyPost_ret (res_cct rfl _ rfl (aggInt.load hb22.1) rfl (aggInt.load hb22.2) rfl) rfl ⟨s4, A4, n4, c4, s5, A5, n5, c5, rfl, i4.store22 hk3 hk4 (by omega) (noInt2 _ _ _ _) (noInt2 _ _ _ _) _ _ _ _, i5.store22 hk3 hk4 (by omega) (noInt2 _ _ _ _) (noInt2 _ _ _ _) _ _ _ _, ?_⟩
      exact Chg.owned (HB.out.2.2.2.2.new hn15) (chg22 _ _ _ _ _ _ _) (fun k e => by omega)
    · subst hs
      subst hnr
      go_wp2_with fail
      refine (made_h (!t) Q nq cq _ w1 HWQ.out.1).mono ?_
      rintro e w4 ⟨s4, A4, n4, c4, rfl, HI4, HN4⟩
      clear ha0 hb0
      go_wp2_with fail
      refine (made_h false R 0 cr _ w4 (HWQ.out.2.new HN4.out)).mono ?_
      rintro e w5 ⟨s5, A5, n5, c5, rfl, HI5, HN5⟩
      have hn15 := HN4.out.new HN5.out
      have hk3 := HB.out.2.2.1.chg hn15 (fun h => h)
      have hk4 := HB.out.2.2.2.1.chg hn15 (fun h => h)
      have g30 := hk3.cell 0 rfl
      have g31 := hk3.cell 1 rfl
      have g40 := hk4.cell 0 rfl
      have g41 := hk4.cell 1 rfl
      have f30 := hk3.frozen 0
      have f31 := hk3.frozen 1
      have f40 := hk4.frozen 0
      have f41 := hk4.frozen 1
      have HK := Lib.hid (And.intro hk3 (And.intro hk4 hn15))
      clear hk3 hk4 hn15
      go_wp2
      obtain ⟨hk3, hk4, hn15⟩ := HK.out
      have hb22 := blk22 hk3 hk4 (by omega) (.bool s4) (.slice A4 n4 c4) (.bool s5) (.slice A5 n5 c5)
      have i4 := HI4.out.new HN5.out
      have i5 := HI5.out
      rw [show sg (!t) (X / Y) = sg (true != t) ((X / Y : Nat)) by cases t <;> rfl, HZ.out.1] at i4
      rw [show sg false (X % Y) = ((X % Y : Nat) : Int) by rfl, HZ.out.2] at i5
      refine bodyPost_ret (res_cct rfl _ rfl (aggInt.load hb22.1) rfl (aggInt.load hb22.2) rfl) rfl ⟨s4, A4, n4, c4, s5, A5, n5, c5, rfl, i4.store22 hk3 hk4 (by omega) (noInt2 _ _ _ _) (noInt2 _ _ _ _) _ _ _ _, i5.store22 hk3 hk4 (by omega) (noInt2 _ _ _ _) (noInt2 _ _ _ _) _ _ _ _, ?_⟩
      exact Chg.owned (HB.out.2.2.2.2.new hn15) (chg22 _ _ _ _ _ _ _) (fun k e => by omega)
end Go.Proofs.YtgofjkppeobjfaaGreatDoor

namespace Go.Proofs.YtgofjkppeobjfaaGreatDoor
set_option linter.unusedVariables false
open Go.RowKit Go.Mem Go.Dig Go.Pure

theorem wdiv_any (v v' : Value) (x y : Int) (w : World) (hx : WI w v x) (hy : WI w v' y) (bx : x.natAbs < 2 ^ 900000) (bY : y.natAbs < 2 ^ 900000) (hy0 : y ≠ 0) :
    Calls Tryz.prog 13 #[v, v'] w fun e w' => ∃ s1 A1 n1 c1 s2 A2 n2 c2, e = .returned (.tuple #[.agg #[.bool s1, .slice A1 n1 c1], .agg #[.bool s2, .slice A2 n2 c2], .int .i64 0]) ∧ Hid (WI w' (.agg #[.bool s1, .slice A1 n1 c1]) (x / y) ∧ WI w' (.agg #[.bool s2, .slice A2 n2 c2]) (x % y) ∧ New w w') := by
  obtain ⟨s, A, n, c, rfl, hs, hm⟩ := hx
  obtain ⟨t, A', n', c', rfl, ht, hm'⟩ := hy
  have h := wdiv_wm s t A n c A' n' c' x.natAbs y.natAbs w hm hm' (bz_wlen hm bx) (bz_wlen hm' bY) (by omega)
  rw [hs, ht, sg_of, sg_of] at h
  rw [hs, ht]
  exact h

set_option maxRecDepth 100000 in
set_option maxHeartbeats 1000000 in
theorem wdiv_zero (v v' : Value) (x : Int) (w : World) (hx : WI w v x) (hy : WI w v' 0) :
    Calls Tryz.prog 13 #[v, v'] w fun e w' => e = .returned (.tuple #[.agg #[.bool false, .slice none 0 0], .agg #[.bool false, .slice none 0 0], .int .i64 1]) ∧ New w w' := by
  obtain ⟨s, A, n, c, rfl, hs, hm⟩ := hx
  obtain ⟨t, A', n', c', rfl, ht, hm'⟩ := hy
  obtain rfl : n' = 0 := hm'.pos.2 rfl
  clear hs hm ht hm'
  go_enter Tryz.func13, Tryz.ntmps13
  go_wp2_with fail
  have hb4 : ∀ W : World, Blk W 0 0 #[] → True := fun _ _ => trivial
  clear hb4
  obtain ⟨W, hW⟩ : ∃ W, (((w.alloc (.cells #[.bool s, .slice A n c] 29)).alloc (.cells #[.bool t, .slice A' 0 c'] 29)).alloc (.cells #[.bool false, .slice none 0 0] 29)).alloc (.cells #[.bool false, .slice none 0 0] 29) = W := ⟨_, rfl⟩
  have hb3 : Blk W (w.heap.size + 1 + 1) 29 #[.bool false, .slice none 0 0] := by
    rw [← hW]
    have := Blk.new ((w.alloc (.cells #[.bool s, .slice A n c] 29)).alloc (.cells #[.bool t, .slice A' 0 c'] 29)) 29 #[.bool false, .slice none 0 0]
    rw [World.size_alloc, World.size_alloc] at this
    exact this.alloc _
  have hb4 : Blk W (w.heap.size + 1 + 1 + 1) 29 #[.bool false, .slice none 0 0] := by
    rw [← hW]
    have := Blk.new (((w.alloc (.cells #[.bool s, .slice A n c] 29)).alloc (.cells #[.bool t, .slice A' 0 c'] 29)).alloc (.cells #[.bool false, .slice none 0 0] 29)) 29 #[.bool false, .slice none 0 0]
    rw [World.size_alloc, World.size_alloc, World.size_alloc] at this
    exact this
  have hnW : New w W := by rw [← hW]; exact ((((Chg.refl _ w).alloc _).alloc _).alloc _).alloc _
  simp only [hW]
  exact bodyPost_ret (res_cct rfl _ rfl (aggInt.load hb3) rfl (aggInt.load hb4) rfl) rfl ⟨rfl, hnW⟩

theorem or0 (d : Nat) (h : d < 4294967296) : bits .or .u64 0 (d : Int) = (d : Int) := by
  have := shl_or32 0 d (by omega) h
  simpa using this
theorem orhi (a d : Nat) (ha : a < 4294967296) (h : d < 4294967296) : bits .or .u64 (a : Int) ((d : Int) * 4294967296) = ((a + d * 4294967296 : Nat) : Int) := by
  have e1 : ((d : Int) * 4294967296) = ((d * 4294967296 : Nat) : Int) := by simp
  have h1 := shl_or32 d a h ha
  rw [e1] at h1 ⊢
  rw [u64_or_nat _ _ (by omega) (by omega), Nat.or_comm, ← u64_or_nat _ _ (by omega) (by omega), h1]
  omega
/-- An int holds it. -/
def isInt (x : Int) : Bool := decide (-9223372036854775808 ≤ x ∧ x ≤ 9223372036854775807)
def intIf (x : Int) : Int := if isInt x then x else 0

set_option maxRecDepth 100000 in
set_option maxHeartbeats 1000000 in
theorem wsmall_any (v : Value) (x : Int) (w : World) (hx : WI w v x) :
    Calls Tryz.prog 36 #[v] w fun e w' => e = .returned (.tuple #[.int .i64 (intIf x), .bool (isInt x)]) ∧ New w w' := by
  obtain ⟨s, A, n, c, rfl, hs, l, hr, hnc, hc, hN⟩ := hx
  have hll : l.length = n := by have := hr.len; rwa [nv_length] at this
  obtain ⟨I, hI⟩ : ∃ I, intIf x = I := ⟨_, rfl⟩
  obtain ⟨b, hb⟩ : ∃ b, isInt x = b := ⟨_, rfl⟩
  rw [hI, hb]
  by_cases h2 : 2 < n
  · have hbig : 4294967296 ^ 2 ≤ x.natAbs := by
      have h3 := val_pos (B := 4294967296) (by omega) hN.trim (by intro e; subst e; simp at hll; omega)
      rw [hN.val, hll] at h3
      exact Nat.le_trans (Nat.pow_le_pow_right (by omega) (by omega)) h3
    have hb0 : b = false := by
      rw [← hb]; unfold isInt; simp; omega
    have hI0 : I = 0 := by rw [← hI]; unfold intIf; rw [hb, hb0]; rfl
    subst hb0 hI0
    clear hr hN hll hbig hI hb hs
    have hlt : (2 : Int) < (n : Int) := by omega
    go_enter Tryz.func36, Tryz.ntmps36
    go_wp2
    go_ret2
    exact ⟨rfl, (Chg.refl _ w).alloc _⟩
  · have hlt : decide ((2 : Int) < (n : Int)) = false := by simp; omega
    have hlt' : decide (2 < n) = false := by simp; omega
    have hn2 : n ≤ 2 := by omega
    obtain ⟨M, hM⟩ : ∃ M, val 4294967296 l = M := ⟨_, rfl⟩
    have hMx : x.natAbs = M := by rw [← hN.val, hM]
    have H0 := Lib.hid (And.intro hr (And.intro hN.digs (And.intro hll hM)))
    have HX := Lib.hid (And.intro hs (And.intro hMx (And.intro hI hb)))
    clear hr hN hll hM hMx hI hb hs h2
    go_enter Tryz.func36, Tryz.ntmps36
    go_wp2_with fail
    refine Code.new1 ?_
    intro W hb1 hnW hzW
    have hc0 := hb1.cell 0 (u := .bool s) rfl
    have HW := Lib.hid hnW
    clear hb1 hnW hzW
    go_loop [14, 4, 5, 6] (fun i m _ _ => ∃ k a : Nat, i = .int .i64 k ∧ m = .int .u64 a ∧ k ≤ n ∧ Hid (a = val 4294967296 (l.take k))) (fun i _ _ _ => n - (intOf i).toNat)
    case atStart => exact ⟨0, 0, rfl, rfl, by omega, rfl⟩
    case round =>
      obtain ⟨k, a, rfl, rfl, hk, HA⟩ := hrel
      by_cases hkn : k < n
      · obtain ⟨hr, hd, hll, hM⟩ := H0.out
        obtain ⟨ad, u, rfl, hu, hcu⟩ := (hr.new HW.out).at_ hkn
        obtain ⟨z, hz, rfl⟩ := nv_at hu
        have hzb := hd.at_ hz
        have hst := val_take (B := 4294967296) hz
        rcases (show k = 0 ∨ k = 1 by omega) with h | h
        · subst h
          have ha0 : a = 0 := by rw [HA.out]; simp
          subst ha0
          have hor := or0 z hzb
          have hst1 : val 4294967296 (l.take 1) = z := by simpa using hst
          have HS := Lib.hid hst1
          rw [show ad.add 0 = ad by simp [Addr.add]] at hcu
          clear hr hd hll hM hu hz hst hst1 HA
          go_wp2
          go_round
          case rel => exact ⟨1, z, rfl, rfl, by omega, HS.out.symm⟩
          case measure => simp [intOf]; omega
        · subst h
          have hab : a < 4294967296 := by
            rw [HA.out]
            have := val_lt (hd.take 1)
            rw [List.length_take, Nat.min_eq_left (by omega)] at this
            simpa using this
          obtain ⟨a2, ha2⟩ : ∃ a2, a + z * 4294967296 = a2 := ⟨_, rfl⟩
          have hor := orhi a z hab hzb
          rw [ha2] at hor
          rw [← HA.out, Nat.pow_one, Nat.mul_comm 4294967296 z, ha2] at hst
          have HS := Lib.hid hst
          have ha2b : a2 < 18446744073709551616 := by omega
          simp [Addr.add] at hcu
          clear hr hd hll hM hu hz hst HA ha2
          go_wp2
          go_round
          case rel => exact ⟨2, a2, rfl, rfl, by omega, HS.out.symm⟩
          case measure => simp [intOf]; omega
      · obtain rfl : n = k := by omega
        have haM : a = M := by
          obtain ⟨hr, hd, hll, hM⟩ := H0.out
          rw [HA.out, List.take_of_length_le (by omega), hM]
        subst haM
        have hMb : a < 18446744073709551616 := by
          obtain ⟨hr, hd, hll, hM⟩ := H0.out
          have := val_lt hd
          rw [hM, hll] at this
          have h3 : 4294967296 ^ n ≤ 4294967296 ^ 2 := Nat.pow_le_pow_right (by omega) hn2
          omega
        obtain ⟨hs, hMx, hI, hb⟩ := HX.out
        clear HA hkn
        cases s
        · have hx0 : ¬ x < 0 := by simpa using hs.symm
          by_cases hf : a < 9223372036854775808
          · have hb1 : b = true := by rw [← hb]; unfold isInt; simp; omega
            have hI1 : I = (a : Int) := by rw [← hI]; unfold intIf; rw [hb, hb1]; simp; omega
            subst hb1 hI1
            have hf1 : (a : Int) < 9223372036854775808 := by omega
            clear hs hMx hI hb hx0
            go_wp2
            go_ret2
            exact ⟨rfl, HW.out⟩
          · have hb1 : b = false := by rw [← hb]; unfold isInt; simp; omega
            have hI1 : I = 0 := by rw [← hI]; unfold intIf; rw [hb, hb1]; rfl
            subst hb1 hI1
            have hf1 : decide ((a : Int) < 9223372036854775808) = false := by simp; omega
            clear hs hMx hI hb hx0
            go_wp2
            go_ret2
            exact ⟨rfl, HW.out⟩
        · have hx0 : x < 0 := by simpa using hs.symm
          by_cases hf : a ≤ 9223372036854775808
          · have hb1 : b = true := by rw [← hb]; unfold isInt; simp; omega
            have hI1 : I = -(a : Int) := by rw [← hI]; unfold intIf; rw [hb, hb1]; simp; omega
            subst hb1 hI1
            have hf1 : (a : Int) ≤ 9223372036854775808 := by omega
            have hw1 : IntKind.i64.wrap (IntKind.u64.wrap (-(a : Int))) = -(a : Int) := by rw [IntKind.wrap_u64, IntKind.wrap_i64]; omega
            clear hs hMx hI hb hx0
            go_wp2
            go_ret2
            exact ⟨rfl, HW.out⟩
          · have hb1 : b = false := by rw [← hb]; unfold isInt; simp; omega
            have hI1 : I = 0 := by rw [← hI]; unfold intIf; rw [hb, hb1]; rfl
            subst hb1 hI1
            have hf1 : decide ((a : Int) ≤ 9223372036854775808) = false := by simp; omega
            clear hs hMx hI hb hx0
            go_wp2
            go_ret2
            exact ⟨rfl, HW.out⟩
end Go.Proofs.YtgofjkppeobjfaaGreatDoor

namespace Go.Proofs.YtgofjkppeobjfaaGreatDoor
set_option linter.unusedVariables false
open Go.RowKit Go.Mem Go.Dig
open Go.Lib (decDigits)

theorem str_at {b : ByteArray} {l : List UInt8} (h : b = St l) {k : Nat} (hk : k < b.size) : l[k]? = some b[k] := by
  subst h
  rw [St_size] at hk
  rw [List.getElem?_eq_getElem hk]
  rfl

set_option maxHeartbeats 1000000 in
theorem digits_wide (b : ByteArray) (l : List UInt8) (hb : b = St l) (hn : b.size ≤ 5000) (r : Bool) (hr : r = true ↔ Txt.Formed l) (w : World) :
    Calls Tryz.prog 42 #[.string b] w fun e w' => e = .returned (.bool r) ∧ w = w' := by
  have hl : l.length = b.size := by rw [hb, St_size]
  have H0 := Lib.hid (And.intro hb (And.intro hl hr))
  clear hb hl hr
  go_enter Tryz.func42, Tryz.ntmps42
  go_wp2
  go_loop [3] (fun i => ∃ k : Nat, i = .int .i64 (k : Int) ∧ k ≤ b.size ∧ Hid (Txt.AllDig (l.take k))) (fun i => b.size - (intOf i).toNat)
  case atStart => exact ⟨0, rfl, by omega, by show Txt.AllDig _; rw [List.take_zero]; exact Txt.AllDig.nil⟩
  case round =>
    obtain ⟨k, rfl, hk, HA⟩ := hrel
    by_cases hlt : k < b.size
    · obtain ⟨hb, hl, hr⟩ := H0.out
      have hc := str_at hb hlt
      obtain ⟨c, hcc⟩ : ∃ c, b[k] = c := ⟨_, rfl⟩
      rw [hcc] at hc
      by_cases hd : Txt.isDig c
      · have hd' := hd
        unfold Txt.isDig at hd
        have h1 : decide ((c.toNat : Int) < 48) = false := by simp; omega
        have h2 : decide (57 < (c.toNat : Int)) = false := by simp; omega
        have HN : Hid (Txt.AllDig (l.take (k + 1))) := by
          show Txt.AllDig _
          rw [List.take_add_one, hc]
          refine HA.out.append (fun x hx => ?_)
          rw [show (some c).toList = [c] by rfl, List.mem_singleton] at hx
          subst hx
          exact hd'
        clear hb hl hr hc hd hd' HA
        go_wp2
        go_round
        case rel => exact ⟨k + 1, by go_num, by omega, HN⟩
        case measure => simp [intOf]; omega
      · have hrf : r = false := by
          cases r
          · rfl
          · exfalso
            exact hd ((hr.1 rfl).1 c (List.mem_of_getElem? hc))
        subst hrf
        unfold Txt.isDig at hd
        by_cases h1 : c.toNat < 48
        · have h1' : (c.toNat : Int) < 48 := by omega
          clear hb hl hr hc hd HA
          go_wp2
          go_ret
          exact ⟨rfl, rfl⟩
        · have h1' : decide ((c.toNat : Int) < 48) = false := by simp; omega
          have h2' : 57 < (c.toNat : Int) := by omega
          clear hb hl hr hc hd HA
          go_wp2
          go_ret
          exact ⟨rfl, rfl⟩
    · obtain rfl : b.size = k := by omega
      obtain ⟨hb, hl, hr⟩ := H0.out
      have hall : Txt.AllDig l := by have := HA.out; rwa [List.take_of_length_le (by omega)] at this
      have hge : decide (((b.size : Nat) : Int) < ((b.size : Nat) : Int)) = false := by simp
      cases l with
      | nil =>
        have hrf : r = false := by
          cases r
          · rfl
          · exact absurd rfl ((hr.1 rfl).ne)
        subst hrf
        have hbe : b = ⟨#[]⟩ := hb
        subst hbe
        clear hb hl hr hall HA hge
        go_wp2
        go_ret
        exact ⟨rfl, rfl⟩
      | cons c0 t =>
        have hpos : 0 < b.size := by rw [← hl]; simp
        have hc := str_at hb hpos
        simp at hc
        have htl : b.toList = c0 :: t := by rw [Lib.toList_data, hb]; simp [St]
        have hne : b.toList.isEmpty = false := by rw [htl]; rfl
        have hne2 : ¬ b.toList = [] := by rw [htl]; simp
        have hne3 : (!b.toList.isEmpty) = true := by rw [hne]; rfl
        by_cases h0 : c0 :: t = [48]
        · have hrt : r = true := hr.2 ⟨hall, .inl h0⟩
          subst hrt
          have hbe : b = ⟨#[48]⟩ := by rw [hb, h0]; rfl
          subst hbe
          clear hb hl hr hall HA hge hne hne2 hne3 htl hc hpos
          go_wp2
          go_ret
          exact ⟨rfl, rfl⟩
        · have hbe : (b.toList == [48]) = false := by rw [htl]; simpa using h0
          have hbe2 : ¬ b.toList = [48] := by rw [htl]; exact h0
          obtain ⟨c, hcc⟩ : ∃ c, b[0] = c := ⟨_, rfl⟩
          rw [hcc] at hc
          subst hc
          by_cases h48 : c0 = 48
          · have hrf : r = false := by
              cases r
              · rfl
              · exfalso
                rcases (hr.1 rfl).2 with h | ⟨a, t', h, ha⟩
                · exact h0 h
                · injection h with h1 h2
                  exact ha (h1 ▸ h48)
            subst hrf
            subst h48
            clear hb hl hr hall HA h0 htl
            go_wp2
            go_ret
            exact ⟨rfl, rfl⟩
          · have hrt : r = true := hr.2 ⟨hall, .inr ⟨c0, t, rfl, h48⟩⟩
            subst hrt
            have hcn : ((c0.toNat : Int) != 48) = true := by
              simp
              intro e
              apply h48
              exact UInt8.toNat_inj.1 (by simpa using (by omega : c0.toNat = 48))
            clear hb hl hr hall HA h0 htl
            go_wp2
            go_ret
            exact ⟨rfl, rfl⟩
end Go.Proofs.YtgofjkppeobjfaaGreatDoor

namespace Go.Mem
open Go.RowKit Go.Shelf

theorem wpListIn_app {F : Fence} {d : Nat} {P : Program} {w : World} {base : Nat} {t e : TypeId} {z : Value} {bytes : Nat} (hE : Elem P t e z bytes) {ops : Array Oper} {rest : List Oper} {o : Oper} {a : Act} {Q : Exit → Act → World → Prop} (hgd : o.guard = none) (s x : Operand)
    (ho : o.op = .call { callee := .builtin .append, args := #[s, x], argTypes := #[t, t] })
    {A0 : Option Addr} {n c0 : Nat} {xs : List Value} (hs : a.eval s = .slice A0 n c0) (hown : w.ownsRow base e 1 (.slice A0 n c0) n xs)
    {A : Option Addr} {m c : Nat} {news : List Value} (hx : a.eval x = .slice A m c) (hr : Rd w A m news) (h1 : ∀ u ∈ news, u.oneCell' = true)
    (h63 : n + m ≤ maxLen) (hbytes : (n + m) * bytes ≤ 140737488355328) (hbase : base ≤ w.heap.size)
    (h : ∀ A' c' w', w'.ownsRow base e 1 (.slice A' (n + m) c') (n + m) (xs ++ news) → w.grownBy w' (blk A0) → (blk A' = blk A0 ∨ blk A' = some w.heap.size) → wpListIn F d P ops Q rest (a.put o.dst (.slice A' (n + m) c')) w') :
    wpListIn F d P ops Q (o :: rest) a w := by
  refine wpListIn_plain hgd fun K hK => ?_
  obtain ⟨A', c', w', hrun, h2, h3, h4⟩ := run_app (P := P) hE o.type hown hr h1 h63 hbytes hbase
  unfold Oper.wpIn
  refine ⟨?_, ?_⟩
  · simp [Oper.about, ho, resolve, Target.leads, Sem.run_pure]
  · rw [Oper.semAt_plain F _ _ (by rw [ho]; intro c hc'; cases hc')]
    simp only [execOp, ho, resolve, invoke, builtin, Sem.run_bind, Sem.run_pure, Result.andThen_ok, List.map_toArray, List.map_cons, List.map_nil, hs, hx]
    rw [hrun]
    exact hK _ _ (h A' c' w' h2 h3 h4)

theorem blk_kept {W W' : World} {row : Option Nat} {g : Nat} {t : TypeId} {cs : Array Value} (hs : Blk W g t cs) (hg : W.grownBy W' row) (hr : ∀ r, row = some r → ∃ o : Obj, W.heap[r]? = some o ∧ o.isCells = false) : Blk W' g t cs :=
  hs.grown hg (fun e => by
    obtain ⟨o, ho, hc⟩ := hr g e
    unfold Blk at hs
    rw [hs] at ho
    cases ho
    simp [Obj.isCells] at hc)
theorem own_blk (g : Nat) (t : TypeId) {β : Type} (cs : β → Array Value) : Own (fun (x : β) W => Blk W g t (cs x)) := fun _ _ _ _ hs hg hr => blk_kept hs hg hr
theorem row_kept {W W' : World} {row : Option Nat} {base n c : Nat} {e : TypeId} {A : Option Addr} {xs : List Value} (hs : W.ownsRow base e 1 (.slice A n c) n xs) (hg : W.grownBy W' row) (hr : ∀ r, row = some r → ∃ o : Obj, W.heap[r]? = some o ∧ o.isCells = false) : W'.ownsRow base e 1 (.slice A n c) n xs := by
  refine ⟨hs.1, ?_⟩
  rcases hs.2 with h0 | ⟨g, cap, cur, hv, hb, hh, r⟩
  · exact .inl h0
  · refine .inr ⟨g, cap, cur, hv, hb, ?_, r⟩
    refine (hg.block g (Array.getElem?_eq_some_iff.1 hh).1 (fun e => ?_)).trans hh
    obtain ⟨o, ho, hc⟩ := hr g e.symm
    rw [hh] at ho
    cases ho
    simp [Obj.isCells] at hc
theorem rd_kept {W W' : World} {row : Option Nat} {n : Nat} {A : Option Addr} {xs : List Value} (hs : Rd W A n xs) (hg : W.grownBy W' row) (hr : ∀ r, row = some r → ∃ o : Obj, W.heap[r]? = some o ∧ o.isCells = false) : Rd W' A n xs :=
  ⟨hs.1, fun hn => by
    obtain ⟨ad, rfl, hc⟩ := hs.2 hn
    exact ⟨ad, rfl, fun j u hu => cell_kept (hc j u hu) hg hr⟩⟩

theorem conv_new (w : World) (e : TypeId) (s : ByteArray) : New w (Lib.bytesWorld w e s) :=
  ⟨rfl, rfl, rfl, by rw [Lib.bytesWorld_size]; omega, fun k hk _ => Lib.bytesWorld_at_old w e s k hk⟩
theorem conv_rd (w : World) (e : TypeId) (s : ByteArray) : Rd (Lib.bytesWorld w e s) (some ⟨w.heap.size, 0, none⟩) s.size (bs s.data.toList) := by
  refine ⟨by simp, fun _ => ⟨_, rfl, fun j u hu => ?_⟩⟩
  obtain ⟨c, hc, rfl⟩ := bs_at hu
  rw [Addr.add_lit, Nat.zero_add]
  have hj : j < s.size := by have := (List.getElem?_eq_some_iff.1 hc).1; simpa using this
  rw [Lib.bytesWorld_cell w e s j hj, List.getD_eq_getElem?_getD, hc]
  rfl

/-- The blocks of K are as they were. -/
def Keep (K : Nat → Prop) (W W' : World) : Prop := ∀ k, K k → W'.heap[k]? = W.heap[k]?
theorem Keep.refl (K : Nat → Prop) (W : World) : Keep K W W := fun _ _ => rfl
theorem Keep.trans {K : Nat → Prop} {A B C : World} (h : Keep K A B) (h' : Keep K B C) : Keep K A C := fun k hk => (h' k hk).trans (h k hk)
theorem Keep.cell {K : Nat → Prop} {W W' : World} (h : Keep K W W') {p : Addr} (hp : K p.block) : W'.cell? p = W.cell? p := World.cell?_of_block (h p.block hp)
theorem Keep.rd {K : Nat → Prop} {W W' : World} (h : Keep K W W') {A : Option Addr} {n : Nat} {xs : List Value} (hr : Rd W A n xs) (hA : ∀ k, blk A = some k → K k) : Rd W' A n xs :=
  ⟨hr.1, fun hn => by
    obtain ⟨ad, rfl, hc⟩ := hr.2 hn
    refine ⟨ad, rfl, fun j u hu => ?_⟩
    rw [h.cell (by rw [block_add]; exact hA _ rfl)]
    exact hc j u hu⟩
theorem Keep.of_chg {K S : Nat → Prop} {W W' : World} (h : Chg S W W') (hk : ∀ k, K k → k < W.heap.size ∧ ¬ S k) : Keep K W W' := fun k hK => h.block k (hk k hK).1 (hk k hK).2
/-- What only changes cells keeps everything else. -/
theorem KeepsOthers.of_grown {W W' : World} {row : Option Nat} {g : Nat} {t : TypeId} {cs : Array Value} {fz : Nat × Nat} (hg : W.grownBy W' row) (hrow : row = some g) (hb : W.heap[g]? = some (.cells cs t fz)) : KeepsOthers W W' :=
  ⟨hg.size, fun k o hk ho => (hg.block k (Array.getElem?_eq_some_iff.1 hk).1 (fun e => by
    rw [hrow] at e
    cases e
    rw [hb] at hk
    cases hk
    simp [Obj.isCells] at ho)).trans hk⟩
theorem KeepsOthers.of_app {W W' : World} {base n c : Nat} {e : TypeId} {A : Option Addr} {xs : List Value} (hs : W.ownsRow base e 1 (.slice A n c) n xs) (hg : W.grownBy W' (blk A)) : KeepsOthers W W' := by
  rcases hs.2 with ⟨hv, _⟩ | ⟨g, cap, cur, hv, hb, hh, r⟩
  · injection hv with hv
    subst hv
    exact ⟨hg.size, fun k o hk _ => (hg.block k (Array.getElem?_eq_some_iff.1 hk).1 (by simp [blk])).trans hk⟩
  · injection hv with hv
    subst hv
    exact KeepsOthers.of_grown hg rfl hh
end Go.Mem

namespace Go.Txt
set_option linter.unusedVariables false
theorem decFrom_val {l : List UInt8} (h : AllDig l) : ∀ a, Lib.decFrom a l = some (a * 10 ^ l.length + decVal l) := by
  induction l using snocRec with
  | nil => intro a; simp [Lib.decFrom, decVal_nil]
  | snoc l c ih =>
    intro a
    have hc := h.right c (by simp)
    have h1 := ih h.left a
    have h2 := Lib.decFrom_take (l ++ [c]) l.length a (a * 10 ^ l.length + decVal l) c (c.toNat - 48) (by rw [List.take_left' rfl]; exact h1) (by simp) (by unfold Lib.digitVal; unfold isDig at hc; rw [if_pos hc])
    rw [List.take_of_length_le (by simp)] at h2
    rw [h2, decVal_snoc, List.length_append, List.length_singleton, Nat.pow_succ]
    congr 1
    rw [Nat.add_mul, Nat.mul_assoc, Nat.add_assoc]
theorem atoi_val {l : List UInt8} (h : AllDig l) (hn : l ≠ []) : Lib.atoi l = some (decVal l : Int) := by
  cases l with
  | nil => exact absurd rfl hn
  | cons c t =>
    have hc := h c (by simp)
    unfold isDig at hc
    have h1 : (c == 45) = false := by simp; intro e; subst e; simp at hc
    have h2 : (c == 43) = false := by simp; intro e; subst e; simp at hc
    simp only [Lib.atoi, h1, h2, Bool.false_eq_true, if_false, Lib.decNat, List.isEmpty_cons]
    rw [decFrom_val h 0]
    simp
theorem hasPrefix45 (l : List UInt8) : Lib.hasPrefix l [45] = decide (l.head? = some 45) := by
  unfold Lib.hasPrefix
  cases l with
  | nil => simp [List.isPrefixOf]
  | cons a t =>
    simp only [List.isPrefixOf, Bool.and_true, List.head?_cons, Option.some.injEq]
    rw [Bool.eq_iff_iff, beq_iff_eq, decide_eq_true_iff]
    exact ⟨fun h => h.symm, fun h => h.symm⟩
theorem trimPrefix45 (l : List UInt8) : Lib.trimPrefix l [45] = body l := by
  unfold Lib.trimPrefix body
  rw [hasPrefix45]
  by_cases h : l.head? = some 45
  · simp [h]
  · simp [h]
end Go.Txt
namespace Go.Proofs.YtgofjkppeobjfaaGreatDoor
set_option linter.unusedVariables false
open Go.RowKit Go.Mem Go.Dig
open Go.Lib (decDigits)

theorem St_dat (l : List UInt8) : (St l).data.toList = l := by simp [St]
theorem St_take (l : List UInt8) (k : Nat) : (St l).extract 0 k = St (l.take k) := by
  apply ByteArray.ext
  simp [St]
theorem St_drop (l : List UInt8) (k : Nat) : (St l).extract k (St l).size = St (l.drop k) := by
  apply ByteArray.ext
  simp [St, ByteArray.size]
  rw [List.take_of_length_le (by simp)]

theorem cut_any (b : ByteArray) (l : List UInt8) (hb : b = St l) (w : World) :
    Calls Tryz.prog 41 #[.string b, .string ⟨#[45]⟩] w fun e w' => e = .returned (.tuple #[.string (St (Txt.body l)), .bool (decide (l.head? = some 45))]) ∧ w = w' := by
  refine (Tryz.strings_CutPrefix b ⟨#[45]⟩ w).mono ?_
  rintro e w' ⟨rfl, rfl⟩
  subst hb
  rw [St_dat, show (⟨#[45]⟩ : ByteArray).data.toList = [45] by rfl, Txt.trimPrefix45, Txt.hasPrefix45]
  exact ⟨rfl, rfl⟩
theorem atoi_any (b : ByteArray) (l : List UInt8) (hb : b = St l) (h : Txt.AllDig l) (hn : l ≠ []) (h9 : l.length ≤ 9) (w : World) :
    Calls Tryz.prog 43 #[.string b] w fun e w' => e = .returned (.tuple #[.int .i64 (Txt.decVal l : Int), .nilIface]) ∧ New w w' := by
  subst hb
  refine (Tryz.strconv_Atoi (St l) (Txt.decVal l) (by rw [St_size]; omega) (by rw [St_dat]; exact Txt.atoi_val h hn) w).mono ?_
  rintro e w' ⟨rfl, t, rfl⟩
  exact ⟨rfl, conv_new _ _ _⟩

set_option maxHeartbeats 1000000 in
set_option maxRecDepth 100000 in
theorem wparse_long (b : ByteArray) (hn : 5000 < b.size) (w : World) :
    Calls Tryz.prog 20 #[.string b] w fun e w' => e = .returned (.tuple #[.agg #[.bool false, .slice none 0 0], .int .i64 4]) ∧ New w w' := by
  have h1 : (5000 : Int) < (b.size : Int) := by omega
  go_enter Tryz.func20, Tryz.ntmps20
  go_wp2
  exact bodyPost_ret (res_ct rfl _ rfl (aggInt.load (Blk.new _ _ _)) rfl) rfl ⟨rfl, (Chg.refl _ w).alloc _⟩

set_option maxHeartbeats 1000000 in
set_option maxRecDepth 100000 in
theorem wparse_bad (b : ByteArray) (l : List UInt8) (hb : b = St l) (hn : b.size ≤ 5000) (h : ∀ z, ¬ Txt.Reads l z) (w : World) :
    Calls Tryz.prog 20 #[.string b] w fun e w' => e = .returned (.tuple #[.agg #[.bool false, .slice none 0 0], .int .i64 2]) ∧ New w w' := by
  have h1 : decide ((5000 : Int) < (b.size : Int)) = false := by simp; omega
  have h1' : decide (5000 < b.size) = false := by simp; omega
  have hcut := cut_any b l hb
  obtain ⟨c, hc⟩ : ∃ c, St (Txt.body l) = c := ⟨_, rfl⟩
  have hcs : c.size ≤ 5000 := by rw [← hc, St_size]; have := Txt.Reads.body_len l; rw [hb, St_size] at hn; omega
  obtain ⟨g, hg⟩ : ∃ g, decide (l.head? = some 45) = g := ⟨_, rfl⟩
  rw [hc, hg] at hcut
  by_cases hf : Txt.Formed (Txt.body l)
  · have hdg := digits_wide c (Txt.body l) hc.symm hcs true ⟨fun _ => hf, fun _ => rfl⟩
    have hbad : l.head? = some 45 ∧ Txt.body l = [48] := by
      refine Classical.byContradiction (fun hx => h _ ⟨hf, hx, rfl⟩)
    obtain rfl : true = g := by rw [← hg]; simp [hbad.1]
    have hcc : c = ⟨#[48]⟩ := by rw [← hc, hbad.2]; rfl
    subst hcc
    have HC := Lib.hid (And.intro hcut hdg)
    clear hcut hdg hb h hc hg hf hbad hcs
    go_enter Tryz.func20, Tryz.ntmps20
    go_wp2_with fail
    refine (HC.out.1 _).mono ?_
    rintro e w1 ⟨rfl, rfl⟩
    go_wp2_with fail
    refine (HC.out.2 _).mono ?_
    rintro e w1 ⟨rfl, rfl⟩
    go_wp2
    exact bodyPost_ret (res_ct rfl _ rfl (aggInt.load (Blk.new _ _ _)) rfl) rfl ⟨rfl, (Chg.refl _ w).alloc _⟩
  · have hdg := digits_wide c (Txt.body l) hc.symm hcs false ⟨fun h => by simp at h, fun h => absurd h hf⟩
    have HC := Lib.hid (And.intro hcut hdg)
    clear hcut hdg hb h hc hg hf hcs
    go_enter Tryz.func20, Tryz.ntmps20
    go_wp2_with fail
    refine (HC.out.1 _).mono ?_
    rintro e w1 ⟨rfl, rfl⟩
    go_wp2_with fail
    refine (HC.out.2 _).mono ?_
    rintro e w1 ⟨rfl, rfl⟩
    go_wp2
    exact bodyPost_ret (res_ct rfl _ rfl (aggInt.load (Blk.new _ _ _)) rfl) rfl ⟨rfl, (Chg.refl _ w).alloc _⟩

theorem sg_reads {l : List UInt8} {z : Int} (h : Txt.Reads l z) : sg (decide (l.head? = some 45)) (Txt.decVal (Txt.body l)) = z := by
  rw [h.2.2]
  unfold sg
  by_cases hs : l.head? = some 45 <;> simp [hs]
theorem WD.lit1 {W : World} {g d : Nat} {t : TypeId} (hb : Blk W g t #[.int .u32 (d : Int)]) (hd : d < 4294967296) : WD W (some ⟨g, 0, none⟩) 1 1 d := by
  refine ⟨[d], ⟨rfl, fun _ => ⟨_, rfl, fun j u hu => ?_⟩⟩, Nat.le_refl _, by omega, ⟨Digs.cons hd (Digs.nil _), by simp [val_cons, val_nil]⟩⟩
  match j, hu with
  | 0, hu =>
    simp [nv] at hu
    subst hu
    rw [Addr.add_lit]
    exact hb.cell 0 rfl
theorem WM.lit1 {W : World} {g d : Nat} {t : TypeId} (hb : Blk W g t #[.int .u32 (d : Int)]) (hd : d < 4294967296) (h1 : 1 ≤ d) : WM W (some ⟨g, 0, none⟩) 1 1 d := by
  obtain ⟨l, h2, h3, h4, h5⟩ := WD.lit1 hb hd
  refine ⟨[d], ?_, h3, h4, ⟨Digs.cons hd (Digs.nil _), by simp [Trim]; omega, by simp [val_cons, val_nil]⟩⟩
  refine ⟨rfl, fun _ => ⟨_, rfl, fun j u hu => ?_⟩⟩
  match j, hu with
  | 0, hu =>
    simp [nv] at hu
    subst hu
    rw [Addr.add_lit]
    exact hb.cell 0 rfl
theorem val_bound {l : List UInt8} (h : Txt.AllDig l) {k : Nat} (hk : l.length ≤ k) : Txt.decVal l < 4294967296 ^ k :=
  Nat.lt_of_lt_of_le (Txt.decVal_lt h) (Nat.le_trans (Nat.pow_le_pow_left (by omega) _) (Nat.pow_le_pow_right (by omega) hk))
theorem chunk_len (m : Nat) (hm : 0 < m) : (m - 1) % 9 + 1 ≤ m ∧ (m - 1) % 9 + 1 ≤ 9 := by
  have := Nat.mod_le (m - 1) 9
  omega
theorem val_chunk (t : List UInt8) (k j : Nat) (hj : k + j ≤ t.length) (h9 : k = 0 ∨ j = 9) : Txt.decVal (t.take k) * 1000000000 + Txt.decVal ((t.drop k).take j) = Txt.decVal (t.take (k + j)) := by
  rw [List.take_add, Txt.decVal_append, List.length_take, Nat.min_eq_left (by simp; omega)]
  rcases h9 with h | h
  · subst h
    rw [List.take_zero, Txt.decVal_nil]
    omega
  · subst h; rfl

set_option maxHeartbeats 4000000 in
set_option maxRecDepth 100000 in
theorem wparse_ok (b : ByteArray) (l : List UInt8) (hb : b = St l) (hn : b.size ≤ 5000) (z : Int) (h : Txt.Reads l z) (w : World) :
    Calls Tryz.prog 20 #[.string b] w fun e w' => ∃ s A n c, e = .returned (.tuple #[.agg #[.bool s, .slice A n c], .int .i64 (rgE z)]) ∧ Hid (WI w' (.agg #[.bool s, .slice A n c]) (rg z) ∧ New w w') := by
  have h1 : decide ((5000 : Int) < (b.size : Int)) = false := by simp; omega
  have h1' : decide (5000 < b.size) = false := by simp; omega
  have hcut := cut_any b l hb
  obtain ⟨c, hc⟩ : ∃ c, St (Txt.body l) = c := ⟨_, rfl⟩
  have hbl := Txt.Reads.body_len l
  have hcs : c.size ≤ 5000 := by rw [← hc, St_size]; rw [hb, St_size] at hn; omega
  obtain ⟨g, hg⟩ : ∃ g, decide (l.head? = some 45) = g := ⟨_, rfl⟩
  rw [hc, hg] at hcut
  have hdg := digits_wide c (Txt.body l) hc.symm hcs true ⟨fun _ => h.1, fun _ => rfl⟩
  have hall := h.1.1
  have hsg := sg_reads h
  rw [hg] at hsg
  obtain ⟨t, ht⟩ : ∃ t, Txt.body l = t := ⟨_, rfl⟩
  rw [ht] at hc hall hsg
  have hneg : g = false ∨ (g = true ∧ (c.toList == [48]) = false) := by
    by_cases h45 : l.head? = some 45
    · right
      refine ⟨by rw [← hg]; simp [h45], ?_⟩
      have h2 := h.2.1
      have : t ≠ [48] := fun e => h2 ⟨h45, by rw [ht, e]⟩
      rw [Lib.toList_data, ← hc, St_dat]
      simpa using this
    · left; rw [← hg]; simp [h45]
  obtain ⟨E, hE⟩ : ∃ E, rgE z = E := ⟨_, rfl⟩
  rw [hE]
  have htl : t.length = c.size := by rw [← hc, St_size]
  have HC := Lib.hid (And.intro hcut hdg)
  have H0 := Lib.hid (And.intro hc (And.intro hall (And.intro hsg (And.intro hE htl))))
  clear hcut hdg hb h hc hg hbl hall hsg ht hE htl
  go_enter Tryz.func20, Tryz.ntmps20
  go_wp2_with fail
  refine Calls.new1 ?_
  intro W hbW hnW hzW
  refine (HC.out.1 W).mono ?_
  rintro e w1 ⟨rfl, rfl⟩
  go_wp2_with fail
  refine (HC.out.2 W).mono ?_
  rintro e w1 ⟨rfl, rfl⟩
  have HW := Lib.hid (And.intro hbW (And.intro hnW hzW))
  clear hbW hnW hzW HC
  have hneg2 : g = false ∨ (g = true ∧ (c.toList == [48]) = false ∧ ¬ c.toList = [48]) := by
    rcases hneg with h | ⟨h, h2⟩
    · exact .inl h
    · exact .inr ⟨h, h2, by simpa using h2⟩
  clear hneg
  have hran : ∀ R m d wo, WM wo R m d (Txt.decVal t) → Calls Tryz.prog 45 #[.bool g, .slice R m d] wo fun e w' => ∃ s' A' n' c', e = .returned (.tuple #[.agg #[.bool s', .slice A' n' c'], .int .i64 E]) ∧ Hid (WI w' (.agg #[.bool s', .slice A' n' c']) (rg z) ∧ New wo w') := fun R m d wo hwm => by
    have := ranged_wm g R m d _ wo hwm
    rw [H0.out.2.2.1, H0.out.2.2.2.1] at this
    exact this
  have HRAN := Lib.hid hran
  clear hran
  rcases hneg2 with h | ⟨h, h48, h48'⟩ <;> subst h
  all_goals
    go_wp2_with fail
    (try clear h48 h48')
    go_loopw [4, 6, 7, 8, 9] (fun s4 s6 _ _ _ wr => ∃ (k : Nat) (b' : ByteArray) (R : Option Addr) (m d : Nat), s4 = .string b' ∧ s6 = .slice R m d ∧ k + b'.size = c.size ∧ (k = 0 ∨ b'.size % 9 = 0) ∧ Hid (b' = St (t.drop k) ∧ WM wr R m d (Txt.decVal (t.take k)) ∧ New W wr)) (fun s4 _ _ _ _ _ => match s4 with | .string b => b.size | _ => 0)
    case atStart => exact ⟨0, c, none, 0, 0, rfl, rfl, by omega, .inl rfl, H0.out.1.symm, WM.zero _, Chg.refl _ _⟩
    case round =>
      obtain ⟨k, b', R, m, d, rfl, rfl, hkc, hk9, HI⟩ := hrel
      obtain ⟨wo, rfl⟩ : ∃ wo : World, wo = wr := ⟨_, rfl⟩
      obtain ⟨hc, hall, hsg, hE, htl⟩ := H0.out
      obtain ⟨hb', hwm, hnw⟩ := HI.out
      have hm : m ≤ 5000 := Nat.le_trans (hwm.len (val_bound (hall.take k) (k := c.size) (by simp; omega))) hcs
      by_cases h0 : b'.size = 0
      · have hpos : decide ((0 : Int) < ((b'.size : Nat) : Int)) = false := by rw [h0]; rfl
        have hpos' : decide (0 < b'.size) = false := by rw [h0]; rfl
        have hk : k = t.length := by omega
        rw [hk, List.take_length] at hwm
        have hran := HRAN.out R m d wo hwm
        have hbw := HW.out.1.chg hnw (fun h => h)
        have HR := Lib.hid (And.intro hran (And.intro hbw hnw))
        clear hc hall hsg hE htl hb' hwm hnw hk hran hbw HI h0
        go_wp2_with fail
        refine HR.out.1.mono ?_
        rintro e w5 ⟨s5, A5, n5, c5, rfl, H5⟩
        have hb5 := HR.out.2.1.chg H5.out.2 (fun h => h)
        have g0 := hb5.cell 0 rfl
        have g1 := hb5.cell 1 rfl
        have f0 := hb5.frozen 0
        have f1 := hb5.frozen 1
        have HB := Lib.hid hb5
        clear hb5
        go_wp2
        refine bodyPost_ret (res_ct rfl _ rfl (aggInt.load (HB.out.set2 _ _)) rfl) rfl ⟨s5, A5, n5, c5, rfl, H5.out.1.store HB.out (noInt_two _ _ _ _) (Chg.at2 _ _ _ _), ?_⟩
        exact Chg.owned ((HW.out.2.1.new HR.out.2.2).new H5.out.2) (Chg.at2 _ _ _ _) (fun k e => by omega)
      · have hpos : (0 : Int) < ((b'.size : Nat) : Int) := by omega
        have hpos' : 0 < b'.size := by omega
        obtain ⟨p, hp⟩ : ∃ p, b'.size - 1 = p := ⟨_, rfl⟩
        obtain ⟨q, hq⟩ : ∃ q, p % 9 = q := ⟨_, rfl⟩
        obtain ⟨j, hj⟩ : ∃ j, q + 1 = j := ⟨_, rfl⟩
        have hpi : ((b'.size : Nat) : Int) - 1 = (p : Int) := by omega
        have hqi : (p : Int) % 9 = (q : Int) := by omega
        have hji : (q : Int) + 1 = (j : Int) := by omega
        have hj9 : j ≤ 9 := by omega
        have hjb : j ≤ b'.size := by omega
        have hjk : k = 0 ∨ j = 9 := by omega
        have hrest : (b'.size - j) % 9 = 0 := by omega
        have hdl : (t.drop k).length = b'.size := by simp; omega
        obtain ⟨b1, hb1⟩ : ∃ x, St ((t.drop k).take j) = x := ⟨_, rfl⟩
        obtain ⟨b2, hb2⟩ : ∃ x, St ((t.drop k).drop j) = x := ⟨_, rfl⟩
        have hb2s : b2.size = b'.size - j := by rw [← hb2, St_size, List.length_drop, hdl]
        have hs1 : ∀ W, (Instr.slice 9 (.string b') none (some (.int .i64 (j : Int))) none).run Tryz.prog W = .ok (.string b1) W := fun W => by
          rw [run_slice_string_h W 9 b' Tryz.underlying9 .i64 (j : Int) (by omega) (by omega), Int.toNat_natCast, hb', St_take, hb1]
        have hs2 : ∀ W, (Instr.slice 9 (.string b') (some (.int .i64 (j : Int))) none none).run Tryz.prog W = .ok (.string b2) W := fun W => by
          rw [run_slice_string_l W 9 b' Tryz.underlying9 .i64 (j : Int) (by omega) (by omega), Int.toNat_natCast, hb', St_drop, hb2]
        have hat := atoi_any b1 ((t.drop k).take j) hb1.symm ((hall.drop k).take j) (by intro e; have := congrArg List.length e; simp at this; omega) (by simp; omega)
        have hPb := Txt.decVal_lt ((hall.drop k).take j)
        have hval := val_chunk t k j (by omega) hjk
        obtain ⟨P, hP⟩ : ∃ P, Txt.decVal ((t.drop k).take j) = P := ⟨_, rfl⟩
        obtain ⟨V, hV⟩ : ∃ V, Txt.decVal (t.take k) = V := ⟨_, rfl⟩
        rw [hP] at hat hPb hval
        rw [hV] at hwm hval
        have hPb2 : P < 1000000000 := by
          refine Nat.lt_of_lt_of_le hPb ?_
          refine Nat.le_trans (Nat.pow_le_pow_right (by omega) (show ((t.drop k).take j).length ≤ 9 by simp; omega)) (by decide)
        have HR := Lib.hid (And.intro hwm (And.intro hnw (And.intro hval (And.intro hat (show b2 = St (t.drop (k + j)) by rw [← hb2, List.drop_drop])))))
        have HRE := Lib.hid (And.intro hrest (And.intro hb2s (show j + b2.size = b'.size by omega)))
        clear hc hall hsg hE htl hb' hwm hnw HI h0 hp hq hj hjk hrest hdl hb1 hb2 hb2s hat hPb hval hP hV
        go_wp2_with fail
        refine (HR.out.2.2.2.1 wo).mono ?_
        rintro e w2 ⟨rfl, hn2⟩
        have HN2 := Lib.hid hn2
        clear hn2
        have hPi : (P : Int) % 4294967296 = (P : Int) := by omega
        go_wp2_with fail
        refine Calls.new1 ?_
        intro W3 hb3 hn3 hz3
        refine (mulMag_any R m d _ 1 1 V 1000000000 W3 ((HR.out.1.new HN2.out).new hn3) (WM.lit1 (d := 1000000000) hb3 (by omega) (by omega)) (by omega) (by omega)).mono ?_
        rintro e w4 ⟨R4, m4, d4, rfl, H4⟩
        have HN3 := Lib.hid hn3
        clear hb3 hn3 hz3
        have hm4 : m4 ≤ 5000 := by
          obtain ⟨hc, hall, hsg, hE, htl⟩ := H0.out
          have hb := val_bound (hall.take (k + j)) (k := c.size) (by simp; omega)
          rw [← HR.out.2.2.1] at hb
          exact Nat.le_trans (H4.out.1.len (k := c.size) (Nat.lt_of_le_of_lt (Nat.le_add_right _ _) hb)) hcs
        go_wp2_with fail
        refine Calls.new1 ?_
        intro W5 hb5 hn5 hz5
        refine (addMag_wd R4 m4 d4 _ 1 1 (V * 1000000000) P W5 (H4.out.1.new hn5).wd (WD.lit1 hb5 (by omega)) (by omega) (by omega)).mono ?_
        rintro e w6 ⟨R6, m6, d6, rfl, H6⟩
        have HN5 := Lib.hid hn5
        clear hb5 hn5 hz5
        go_wp2_with fail
        go_roundw
        case rel =>
          refine ⟨k + j, b2, R6, m6, d6, rfl, rfl, by have := HRE.out.2.2; omega, .inr (by rw [HRE.out.2.1]; exact HRE.out.1), HR.out.2.2.2.2, ?_, ?_⟩
          · have := H6.out.1
            rwa [HR.out.2.2.1] at this
          · exact ((((HR.out.2.1.new HN2.out).new HN3.out).new H4.out.2.2).new HN5.out).new H6.out.2
        case measure =>
          show b2.size < b'.size
          have := HRE.out.2.1
          omega
end Go.Proofs.YtgofjkppeobjfaaGreatDoor

namespace Go.Proofs.YtgofjkppeobjfaaGreatDoor
set_option linter.unusedVariables false
open Go.RowKit Go.Mem Go.Dig
open Go.Lib (decDigits)

/-- The library's table of powers of ten lies as its text lays it. -/
def PowTab (w : World) : Prop := Lib.TabIs Tryz.prog w "internal/strconv.uint64pow10" .u64 Lib.pow10Tab
theorem PowTab.chg {S : Nat → Prop} {w w' : World} (h : PowTab w) (hc : Chg S w w') (hs : ∀ g, Tryz.prog.globalNamed "internal/strconv.uint64pow10" = some g → ¬ S g) : PowTab w' := by
  unfold PowTab Lib.TabIs World.var? at h ⊢
  cases hg : Tryz.prog.globalNamed "internal/strconv.uint64pow10" with
  | none => rw [hg] at h; simp at h
  | some g =>
    rw [hg] at h
    simp only [Option.bind_some] at h ⊢
    cases ho : w.heap[g]? with
    | none => rw [ho] at h; simp at h
    | some o =>
      rw [hc.heap ho (hs g hg)]
      rw [ho] at h
      exact h
theorem PowTab.new {w w' : World} (h : PowTab w) (hc : New w w') : PowTab w' := h.chg hc (fun _ _ h => h)
theorem grow_new (w : World) (k : Nat) (os : Array Obj) : New w (Sort.grow (w.drewN k) os) := by
  refine ⟨rfl, rfl, rfl, by simp [Sort.grow, World.drewN], fun j hj _ => ?_⟩
  simp only [Sort.grow, World.drewN]
  rw [Array.getElem?_append_left hj]

theorem itoa_any (d : Nat) (hd : d < 1000000000) (w : World) (ht : PowTab w) :
    Calls Tryz.prog 59 #[.int .i64 (d : Int)] w fun e w' => e = .returned (.string (St (decDigits d))) ∧ New w w' := by
  refine (Tryz.strconv_Itoa (d : Int) (by omega) (by omega) w ht).mono ?_
  rintro e w' ⟨rfl, k, os, rfl⟩
  refine ⟨?_, grow_new _ _ _⟩
  have : Lib.itoa (d : Int) = decDigits d := by
    unfold Lib.itoa
    rw [if_neg (by omega), Int.toNat_natCast]
  rw [this]
  rfl
theorem repeatL_rep (c : Nat) : Lib.repeatL [48] c = List.replicate c 48 := by
  induction c with
  | zero => rfl
  | succ c ih => rw [Lib.repeatL, ih, List.replicate_succ]; rfl
theorem repeat_any (c : Nat) (hc : c ≤ 9) (w : World) :
    Calls Tryz.prog 60 #[.string ⟨#[48]⟩, .int .i64 (c : Int)] w fun e w' => e = .returned (.string (St (List.replicate c 48))) ∧ New w w' := by
  refine (Tryz.strings_Repeat ⟨#[48]⟩ c w (by omega) (by rw [show (⟨#[48]⟩ : ByteArray).size = 1 by rfl]; omega)).mono ?_
  rintro e w' ⟨rfl, h⟩
  refine ⟨?_, New.of_below h⟩
  rw [show (⟨#[48]⟩ : ByteArray).data.toList = [48] by rfl, repeatL_rep]
  rfl
theorem elemStrs : Elem Tryz.prog 90 9 (.string ⟨#[]⟩) 16 := Elem.mk' Tryz.underlying90 (by kernel_rfl) rfl

/-- The parts of a text, the last first. -/
def joinR (ps : List (List UInt8)) : List UInt8 := ps.reverse.flatten
theorem joinR_snoc (ps : List (List UInt8)) (p : List UInt8) : joinR (ps ++ [p]) = p ++ joinR ps := by simp [joinR]
def StrI (T : List UInt8) (V : Nat) (ps : List (List UInt8)) : Prop := (if V = 0 then joinR ps else decDigits V ++ joinR ps) = T
theorem str_more {T : List UInt8} {V : Nat} {ps : List (List UInt8)} (h : StrI T V ps) (hq : 0 < V / 1000000000) : StrI T (V / 1000000000) (ps ++ [Txt.pad 9 (V % 1000000000)]) := by
  unfold StrI at h ⊢
  rw [if_neg (by omega)] at h ⊢
  have e := Txt.dec_pad 9 (V / 1000000000) (V % 1000000000) (Nat.mod_lt _ (by omega)) hq
  rw [show V / 1000000000 * 10 ^ 9 + V % 1000000000 = V by omega] at e
  rw [← h, e, joinR_snoc, List.append_assoc]
theorem str_last {T : List UInt8} {V : Nat} {ps : List (List UInt8)} (h : StrI T V ps) (h0 : V ≠ 0) (hq : V / 1000000000 = 0) : StrI T 0 (ps ++ [decDigits (V % 1000000000)]) := by
  unfold StrI at h ⊢
  rw [if_neg h0] at h
  rw [if_pos rfl, joinR_snoc, Nat.mod_eq_of_lt (by omega), h]
theorem pad9 {d : Nat} (hd : d < 1000000000) : List.replicate (9 - (decDigits d).length) 48 ++ decDigits d = Txt.pad 9 d := (Txt.pad_dec 9 d (by omega) (by omega)).symm
def strs (ps : List (List UInt8)) : List Value := ps.map (fun p => Value.string (St p))
theorem strs_one (ps : List (List UInt8)) : ∀ u ∈ strs ps, u.oneCell' = true := by
  intro u hu
  obtain ⟨_, _, rfl⟩ := List.mem_map.1 hu
  rfl
theorem strs_len (ps : List (List UInt8)) : (strs ps).length = ps.length := by simp [strs]

theorem StrI.len {T : List UInt8} {V : Nat} {ps : List (List UInt8)} (h : StrI T V ps) (hl : ps.length ≤ (joinR ps).length) : ps.length ≤ T.length := by
  unfold StrI at h
  rw [← h]
  split
  · exact hl
  · rw [List.length_append]; omega
theorem dec_words {Z n : Nat} (h : Z < 4294967296 ^ n) (hn : 1 ≤ n) : (decDigits Z).length ≤ 10 * n := by
  refine Txt.dec_len_le (by omega) (Nat.lt_of_lt_of_le h ?_)
  rw [Nat.pow_mul]
  exact Nat.pow_le_pow_left (by decide) n
/-- What the first loop of String holds. -/
def S1 (w : World) (T : List UInt8) (R : Option Addr) (m d : Nat) (PA : Option Addr) (k pc V : Nat) (ps : List (List UInt8)) (wr : World) : Prop :=
  WM wr R m d V ∧ StrI T V ps ∧ ps.length = k ∧ k ≤ (joinR ps).length ∧ wr.ownsRow w.heap.size 9 1 (.slice PA k pc) k (strs ps) ∧ New w wr
theorem chg_below {B : Nat} {w w' : World} (h : Below B w w') : Chg (fun j => B ≤ j) w w' := ⟨h.os, h.tape, h.output, h.size, fun k _ hn => h.block k (by omega)⟩
/-- What the second loop of String holds. -/
def S2 (wo : World) (gb : Nat) (sgn : List UInt8) (ps : List (List UInt8)) (k : Nat) (wr : World) : Prop :=
  Lib.IsBuilder 95 5 gb gb (Lib.byteCells (sgn ++ (ps.drop k).reverse.flatten)) wr ∧ Chg (fun j => gb ≤ j) wo wr
theorem flat_step {ps : List (List UInt8)} {k : Nat} {p : List UInt8} (h : ps[k]? = some p) : (ps.drop k).reverse.flatten = (ps.drop (k + 1)).reverse.flatten ++ p := by
  obtain ⟨hk, hp⟩ := List.getElem?_eq_some_iff.1 h
  rw [List.drop_eq_getElem_cons hk, hp]
  simp
theorem flat_le (ps : List (List UInt8)) (k : Nat) : (ps.drop k).reverse.flatten.length ≤ (joinR ps).length := by
  unfold joinR
  rw [← List.take_append_drop k ps, List.reverse_append, List.flatten_append, List.length_append]
  simp
theorem strCells_St (p : List UInt8) : Lib.strCells (St p) = Lib.byteCells p := by
  unfold Lib.strCells Lib.byteCells
  rw [St_dat]
theorem strs_at {ps : List (List UInt8)} {k : Nat} {u : Value} (h : (strs ps)[k]? = some u) : ∃ p, ps[k]? = some p ∧ u = .string (St p) := by
  simp only [strs, List.getElem?_map, Option.map_eq_some_iff] at h
  obtain ⟨c, h1, h2⟩ := h
  exact ⟨c, h1, h2.symm⟩
theorem S1.next {w2 wo w3 w6 w7 : World} {T : List UInt8} {R : Option Addr} {m d : Nat} {PA : Option Addr} {k pc V : Nat} {ps : List (List UInt8)} {g3 T1 m1 V1 c7 : Nat} {A7 : Option Addr} {p : List UInt8} {o : Obj} (h : S1 w2 T R m d PA k pc V ps wo) (hg : wo.heap.size ≤ g3) (hn3 : New wo w3) (hwm : WM w3 (some ⟨g3, 0, none⟩) T1 m1 V1) (hn6 : New w3 w6)
    (hown : w7.ownsRow w2.heap.size 9 1 (.slice A7 (k + 1) c7) (k + 1) (strs ps ++ strs [p])) (hgr : (w6.alloc o).grownBy w7 (blk PA)) (hst : StrI T V1 (ps ++ [p])) (hp : 1 ≤ p.length) : S1 w2 T (some ⟨g3, 0, none⟩) T1 m1 A7 (k + 1) c7 V1 (ps ++ [p]) w7 := by
  obtain ⟨h1, h2, h3, h4, h5, h6⟩ := h
  have hch : Chg (fun j => blk PA = some j) w6 w7 := ((Chg.refl _ w6).alloc o).grown hgr (fun j hj _ => hj)
  refine ⟨(hwm.new hn6).chg hch (fun j hj e => ?_), hst, by simp [h3], by rw [joinR_snoc, List.length_append]; omega, by rw [show strs (ps ++ [p]) = strs ps ++ strs [p] by simp [strs]]; exact hown, ?_⟩
  · have := (own_blk_le h5 e).2
    simp [blk] at hj
    omega
  · exact ((h6.new hn3).new hn6).trans hch (fun j hj e => by have := (own_blk_le h5 e).1; omega)
theorem rd_str {w : World} {b : ByteArray} {l : List UInt8} {e : TypeId} {g : Nat} (hg : g = w.heap.size) (hb : b = St l) : Rd (w.alloc (.cells #[.string b] e)) (some ⟨g, 0, none⟩) 1 (strs [l]) := by
  subst hg hb; exact Rd.lit (strs [l]) rfl

set_option maxHeartbeats 4000000 in
set_option maxRecDepth 100000 in
theorem wstring_any (v : Value) (z : Int) (w : World) (hv : WI w v z) (hpt : PowTab w) (hz : z.natAbs < 2 ^ 900000) :
    Calls Tryz.prog 34 #[v] w fun e w' => e = .returned (.string (St (Txt.text z))) ∧ New w w' := by
  obtain ⟨s, A, n, c, rfl, hs, hm⟩ := hv
  have hn := bz_wlen hm hz
  clear hz
  obtain ⟨T, hT⟩ : ∃ T, Txt.text z = T := ⟨_, rfl⟩
  rw [hT]
  by_cases h0 : n = 0
  · subst h0
    have hz0 : z.natAbs = 0 := hm.pos.1 rfl
    obtain rfl : [48] = T := by
      rw [← hT]; unfold Txt.text; rw [if_neg (by omega), hz0, Txt.dec_small (by omega)]; rfl
    clear hm hT hz0 hs hpt
    go_enter Tryz.func34, Tryz.ntmps34
    go_wp2
    go_ret
    exact ⟨rfl, (Chg.refl _ w).alloc _⟩
  · have hn0 : ((n : Int) == 0) = false := by simp; omega
    obtain ⟨Z, hZ⟩ : ∃ Z, z.natAbs = Z := ⟨_, rfl⟩
    rw [hZ] at hm
    have hZ1 : Z ≠ 0 := fun h => h0 (hm.pos.2 h)
    obtain ⟨la, hr, hnc, hc, hN⟩ := hm
    have H0 := Lib.hid (And.intro hr (And.intro hN (And.intro hs (And.intro hT (And.intro hZ hpt)))))
    have hbW := fun (W : World) => Rd.new (w := w) (w' := W) hr
    clear hr hN hs hT hZ hpt hbW
    go_enter Tryz.func34, Tryz.ntmps34
    go_upto_region 3 with fail
    refine Code.new1 ?_
    intro W hb1 hnW hzW
    have hk1 := hb1.cell 1 (u := .slice A n c) rfl
    have HW := Lib.hid (And.intro hb1 hnW)
    clear hb1 hnW hzW
    go_wp2_with (first
      | (at_make; refine wpList_mk elemU32 rfl rfl _ _ rfl (n := n) rfl rfl (by omega) (by omega) (by omega) (by simp only [maxLen]; omega) ?_; intro w1 hown1 hg1 hz1; have HMK := Lib.hid (And.intro hown1 (And.intro hg1 hz1)); have hk2 := hg1.cell hk1 (fun h => h); clear hown1 hg1 hz1)
      | ((with_reducible refine wpList_cp elemU32 rfl (.tmp 17) (.tmp 19) rfl rfl HMK.out.1 rfl (Nat.le_refl _) ((H0.out.1.new HW.out.2).new HMK.out.2.1) (nv_one _) ?_); intro w2 hown2 hch2; have HCP := Lib.hid (And.intro hown2 hch2); clear hown2 hch2))
    have hnw2 : New w w2 := Chg.owned (HW.out.2.new HMK.out.2.1) HCP.out.2 (fun k e => by have := HW.out.2.size; omega)
    have hb2 : Blk w2 w.heap.size 29 #[.bool s, .slice A n c] := (HW.out.1.chg HMK.out.2.1 (fun h => h)).chg HCP.out.2 (by have := HW.out.1.lt; omega)
    have hZlt : Z < 4294967296 ^ n := H0.out.2.1.lt (by omega) (by have := H0.out.1.len; rw [nv_length] at this; omega)
    obtain ⟨TD, hTD⟩ : ∃ x, decDigits Z = x := ⟨_, rfl⟩
    have hTl : TD.length ≤ 9000000 := by rw [← hTD]; have := dec_words hZlt (by omega); omega
    have hS : S1 w2 TD (some ⟨W.heap.size, 0, none⟩) n n none 0 0 Z [] w2 := by
      refine ⟨⟨la, ?_, Nat.le_refl _, by omega, H0.out.2.1⟩, ?_, rfl, Nat.zero_le _, World.ownsRow_nil w2 w2.heap.size _ _, Chg.refl _ _⟩
      · have := Rd.of_own HCP.out.1
        rwa [List.drop_eq_nil_of_le (by simp), List.append_nil] at this
      · unfold StrI; rw [if_neg hZ1, hTD]; simp [joinR]
    obtain ⟨gr, hgr⟩ : ∃ x, W.heap.size = x := ⟨_, rfl⟩
    rw [hgr] at hS
    simp only [hgr]
    have H2 := Lib.hid (And.intro hS (And.intro hnw2 (And.intro hb2 hTD)))
    clear hnw2 hb2 hZlt hTD hS hgr HCP HMK hk1 hk2
    go_loopw [3, 4, 5, 6] (fun s3 s4 _ _ wr => ∃ (R : Option Addr) (m d : Nat) (PA : Option Addr) (k pc V : Nat) (ps : List (List UInt8)), s3 = .slice R m d ∧ s4 = .slice PA k pc ∧ m ≤ 900000 ∧ Hid (S1 w2 TD R m d PA k pc V ps wr)) (fun s3 s4 _ _ _ => match s3, s4 with | .slice _ m _, .slice _ k _ => if m = 0 then 0 else 9000001 - k | _, _ => 0)
    case atStart => exact ⟨_, n, n, none, 0, 0, Z, [], rfl, rfl, hn, H2.out.1⟩
    case round =>
      obtain ⟨R, m, d, PA, k, pc, V, ps, rfl, rfl, hm, HS⟩ := hrel
      obtain ⟨wo, rfl⟩ : ∃ wo : World, wo = wr := ⟨_, rfl⟩
      obtain ⟨hwm, hst, hpl, hpj, hown, hnw⟩ := HS.out
      have hkT : k ≤ 9000000 := by have := hst.len (by omega); omega
      by_cases hm0 : m = 0
      · subst hm0
        have hV0 : V = 0 := hwm.pos.1 rfl
        subst hV0
        obtain ⟨gb, hgb⟩ : ∃ x, wo.heap.size = x := ⟨_, rfl⟩
        have hbo := H2.out.2.2.1.chg hnw (fun h => h)
        have hk0 := ((Chg.refl (fun _ => False) wo).alloc (.cells #[.pointer none, .slice none 0 0] 95)).cell (hbo.cell 0 (u := .bool s) rfl) (fun h => h)
        have hjT : joinR ps = TD := by unfold StrI at hst; rw [if_pos rfl] at hst; exact hst
        have hrd : Rd wo PA k (strs ps) := Rd.of_own hown
        have hblk : ∀ j, blk PA = some j → j < gb := fun j hj => by have := (own_blk_le hown hj).2; omega
        have hneww : New w wo := H2.out.2.1.new hnw
        have hlen : ∀ j, (ps.drop j).reverse.flatten.length ≤ 9000000 := fun j => Nat.le_trans (flat_le ps j) (by rw [hjT]; exact hTl)
        have HP := Lib.hid (And.intro hjT (And.intro hrd (And.intro hblk (And.intro hneww (And.intro hlen (And.intro hpl hgb))))))
        clear hwm hst hpj hown hnw HS hbo hjT hrd hblk hneww hlen hpl
        have fin : ∀ (sgn : List UInt8), sgn.length ≤ 1 → sgn ++ TD = T → ∀ (wr : World), S2 wo gb sgn ps 0 wr → Calls Tryz.prog 63 #[.pointer (some ⟨gb, 0, none⟩)] wr fun e w' => e = .returned (.string (St T)) ∧ Hid (New w w') := fun sgn _ hT wr h => by
          obtain ⟨h1, h2⟩ := h
          obtain ⟨hjT, hrd, hblk, hneww, hlen, hpl, hgb⟩ := HP.out
          rw [List.drop_zero, show ps.reverse.flatten = joinR ps by rfl, hjT, hT] at h1
          refine (Tryz.Builder_String_any gb gb T wr h1 (by have := h2.size; omega)).mono ?_
          rintro e w' ⟨rfl, hb⟩
          exact ⟨rfl, hneww.trans (h2.trans (chg_below hb) (fun _ _ h => h)) (fun j hj e => by have := hneww.size; omega)⟩
        have stp : ∀ (sgn : List UInt8), sgn.length ≤ 1 → ∀ (i : Nat) (p : List UInt8) (wr : World), ps[i]? = some p → S2 wo gb sgn ps (i + 1) wr → Calls Tryz.prog 62 #[.pointer (some ⟨gb, 0, none⟩), .string (St p)] wr fun e w' => (∃ v, e = .returned v) ∧ Hid (S2 wo gb sgn ps i w') := fun sgn hs1 i p wr hp h => by
          obtain ⟨h1, h2⟩ := h
          obtain ⟨hjT, hrd, hblk, hneww, hlen, hpl, hgb⟩ := HP.out
          have hl := hlen i
          rw [flat_step hp, List.length_append] at hl
          refine (Tryz.Builder_WriteString gb gb _ (St p) wr h1 (by simp only [Lib.byteCells, List.length_map, List.length_append, St_size]; omega) (by have := h2.size; omega)).mono ?_
          rintro e w' ⟨rfl, hb, hbel⟩
          refine ⟨⟨_, rfl⟩, ?_, h2.trans (chg_below hbel) (fun _ _ h => h)⟩
          rw [strCells_St, ← Lib.byteCells_append, List.append_assoc, ← flat_step hp] at hb
          exact .inr hb
        have HF := Lib.hid (And.intro fin stp)
        clear fin stp
        obtain ⟨hr, hN, hs, hT, hZ, hpt⟩ := H0.out
        have hTD := H2.out.2.2.2
        have hstart : Lib.IsBuilder 95 5 gb gb [] (wo.alloc (.cells #[.pointer none, .slice none 0 0] 95)) := by rw [← hgb]; exact Lib.fresh_isBuilder _ _ _
        cases s
        · have hsgn : [] ++ TD = T := by
            rw [← hT, ← hTD, ← hZ]; unfold Txt.text; rw [if_neg (by simpa using hs.symm)]; rfl
          have HS := Lib.hid (And.intro hsgn hstart)
          clear hr hN hs hT hZ hpt hTD hsgn hstart
          have HST : Hid (S2 wo gb [] ps k (wo.alloc (.cells #[.pointer none, .slice none 0 0] 95))) := by
            refine ⟨?_, (Chg.refl _ wo).alloc _⟩
            rw [List.drop_eq_nil_of_le (by have := HP.out.2.2.2.2.2.1; omega)]
            exact HS.out.2
          go_wp2_with fail
          clear hk0
          go_loopw [8] (fun i wr => ∃ j : Nat, i = .int .i64 ((j : Int) - 1) ∧ j ≤ k ∧ Hid (S2 wo gb [] ps j wr)) (fun i _ => (intOf i + 1).toNat)
          case atStart => exact ⟨k, rfl, Nat.le_refl _, HST⟩
          case round =>
            obtain ⟨j, rfl, hjk, HI⟩ := hrel
            obtain ⟨wq, rfl⟩ : ∃ wq : World, wq = wr := ⟨_, rfl⟩
            by_cases hj0 : j = 0
            · subst hj0
              rw [show (((0 : Nat) : Int) - 1) = -1 by rfl]
              go_wp2_with fail
              refine (HF.out.1 [] (by simp) HS.out.1 wq HI.out).mono ?_
              rintro e w9 ⟨rfl, H9⟩
              go_wp2
              go_ret
              exact ⟨rfl, H9.out⟩
            · obtain ⟨i, rfl⟩ : ∃ i, j = i + 1 := ⟨j - 1, by omega⟩
              rw [show (((i + 1 : Nat) : Int) - 1) = (i : Int) by omega]
              obtain ⟨hjT, hrd, hblk, hneww, hlen, hpl, hgb'⟩ := HP.out
              obtain ⟨ad, u, rfl, hu, hcu⟩ := (hrd.chg HI.out.2 (fun q hq _ e => by have := hblk q hq; omega)).at_ (show i < k by omega)
              obtain ⟨pp, hpp, rfl⟩ := strs_at hu
              have hst := HF.out.2 [] (by simp) i pp wq hpp HI.out
              have HST2 := Lib.hid hst
              clear hjT hrd hblk hneww hlen hpl hgb' hu hpp hst hj0
              go_wp2_with fail
              refine HST2.out.mono ?_
              rintro e w9 ⟨⟨ve, rfl⟩, H9⟩
              go_wp2
              go_roundw
              case rel => exact ⟨i, rfl, by omega, H9⟩
              case measure => simp [intOf]
        · have hsgn : [45] ++ TD = T := by
            rw [← hT, ← hTD, ← hZ]; unfold Txt.text; rw [if_pos (by simpa using hs.symm)]; rfl
          have HS := Lib.hid (And.intro hsgn hstart)
          clear hr hN hs hT hZ hpt hTD hsgn hstart
          go_wp2_with fail
          refine (Tryz.Builder_WriteByte gb gb [] 45 _ HS.out.2 (by simp) (by have := hgb; simp; omega)).mono ?_
          rintro e w8 ⟨rfl, hb8, hbel8⟩
          have HST : Hid (S2 wo gb [45] ps k w8) := by
            refine ⟨.inr ?_, ((Chg.refl _ wo).alloc _).trans (chg_below hbel8) (fun _ _ h => h)⟩
            rw [List.drop_eq_nil_of_le (by have := HP.out.2.2.2.2.2.1; omega)]
            exact hb8
          clear hb8 hbel8
          go_wp2_with fail
          clear hk0
          go_loopw [8] (fun i wr => ∃ j : Nat, i = .int .i64 ((j : Int) - 1) ∧ j ≤ k ∧ Hid (S2 wo gb [45] ps j wr)) (fun i _ => (intOf i + 1).toNat)
          case atStart => exact ⟨k, rfl, Nat.le_refl _, HST⟩
          case round =>
            obtain ⟨j, rfl, hjk, HI⟩ := hrel
            obtain ⟨wq, rfl⟩ : ∃ wq : World, wq = wr := ⟨_, rfl⟩
            by_cases hj0 : j = 0
            · subst hj0
              rw [show (((0 : Nat) : Int) - 1) = -1 by rfl]
              go_wp2_with fail
              refine (HF.out.1 [45] (by simp) HS.out.1 wq HI.out).mono ?_
              rintro e w9 ⟨rfl, H9⟩
              go_wp2
              go_ret
              exact ⟨rfl, H9.out⟩
            · obtain ⟨i, rfl⟩ : ∃ i, j = i + 1 := ⟨j - 1, by omega⟩
              rw [show (((i + 1 : Nat) : Int) - 1) = (i : Int) by omega]
              obtain ⟨hjT, hrd, hblk, hneww, hlen, hpl, hgb'⟩ := HP.out
              obtain ⟨ad, u, rfl, hu, hcu⟩ := (hrd.chg HI.out.2 (fun q hq _ e => by have := hblk q hq; omega)).at_ (show i < k by omega)
              obtain ⟨pp, hpp, rfl⟩ := strs_at hu
              have hst := HF.out.2 [45] (by simp) i pp wq hpp HI.out
              have HST2 := Lib.hid hst
              clear hjT hrd hblk hneww hlen hpl hgb' hu hpp hst hj0
              go_wp2_with fail
              refine HST2.out.mono ?_
              rintro e w9 ⟨⟨ve, rfl⟩, H9⟩
              go_wp2
              go_roundw
              case rel => exact ⟨i, rfl, by omega, H9⟩
              case measure => simp [intOf]
      · have hmp : (0 : Int) < (m : Int) := by omega
        have hmp' : 0 < m := by omega
        have hV0 : V ≠ 0 := fun h => hm0 (hwm.pos.2 h)
        have hdw := divWord_any R m d V 1000000000 wo hwm (by omega) (by omega) (by omega)
        obtain ⟨lo, hlo⟩ : ∃ x, V % 1000000000 = x := ⟨_, rfl⟩
        obtain ⟨hi, hhi⟩ : ∃ x, V / 1000000000 = x := ⟨_, rfl⟩
        rw [hlo, hhi] at hdw
        have hlob : lo < 1000000000 := by omega
        have hll := Txt.dec_len_le (u := lo) (k := 9) (by omega) (by omega)
        obtain ⟨tx, htx⟩ : ∃ x, St (decDigits lo) = x := ⟨_, rfl⟩
        have htxs : tx.size = (decDigits lo).length := by rw [← htx, St_size]
        have htx9 : tx.size ≤ 9 := by omega
        have hit := fun W h => itoa_any lo hlob W h
        rw [htx] at hit
        have HD := Lib.hid (And.intro hdw (And.intro hit (And.intro htx (And.intro htxs (And.intro hlo hhi)))))
        have HX := Lib.hid (And.intro hwm (And.intro hst (And.intro hpl (And.intro hpj (And.intro hown hnw)))))
        clear hdw hit htx htxs hlo hhi hwm hst hpl hpj hown hnw hll
        go_wp2_with fail
        refine HD.out.1.mono ?_
        rintro e w3 ⟨l3, g3, rfl, H3⟩
        go_wp2_with fail
        refine (trim_wm _ _ _ l3 w3 H3.out.1 H3.out.2.1 (Nat.le_refl _) (by omega)).mono ?_
        rintro e w4 ⟨T1, rfl, HT1, rfl⟩
        go_wp2_with fail
        refine (HD.out.2.1 w3 (((H0.out.2.2.2.2.2.new H2.out.2.1).new HX.out.2.2.2.2.2).new H3.out.2.2.2.2)).mono ?_
        rintro e w5 ⟨rfl, hn5⟩
        have HN5 := Lib.hid hn5
        have hT1 := HT1.out.1.pos
        rw [H3.out.2.2.1] at hT1
        clear hn5
        by_cases hq : hi = 0
        · obtain rfl : T1 = 0 := hT1.2 hq
          have HQ := Lib.hid hq
          clear hT1 hq
          go_wp2_with (at_builtin; refine wpList_app elemStrs rfl _ _ rfl rfl (own_chg (own_chg (own_chg HX.out.2.2.2.2.1 H3.out.2.2.2.2 (fun _ _ h => h)) HN5.out (fun _ _ h => h)) ((Chg.refl (fun _ => False) w5).alloc (.cells #[.string tx] 9)) (fun _ _ h => h)) rfl (rd_str rfl HD.out.2.2.1.symm) (strs_one _) (by simp only [maxLen]; omega) (by omega) (by have := HX.out.2.2.2.2.2.size; have := H3.out.2.2.2.2.size; have := HN5.out.size; simp; omega) ?_; intro A7 c7 w7 hown7 hg7 hat7; have HA7 := Lib.hid (And.intro hown7 (And.intro hg7 hat7)); clear hown7 hg7 hat7)
          go_roundw
          case rel =>
            refine ⟨_, 0, m, A7, k + 1, c7, hi, ps ++ [decDigits lo], rfl, rfl, by omega, ?_⟩
            have hst := str_last HX.out.2.1 hV0 (by have := HD.out.2.2.2.2.2; have := HQ.out; omega)
            rw [HD.out.2.2.2.2.1, ← HQ.out] at hst
            have hwm3 := HT1.out.1
            rw [H3.out.2.2.1] at hwm3
            exact S1.next HS.out H3.out.2.2.2.1 H3.out.2.2.2.2 hwm3 HN5.out HA7.out.1 HA7.out.2.1 hst (Txt.dec_len_pos _)
          case measure =>
            show (if 0 = 0 then 0 else 9000001 - (k + 1)) < (if m = 0 then 0 else 9000001 - k)
            rw [if_pos rfl, if_neg (by omega)]
            omega
        · have hT1p : (0 : Int) < (T1 : Int) := by
            rcases Nat.eq_zero_or_pos T1 with h | h
            · exact absurd (hT1.1 h) hq
            · omega
          have hT1p' : 0 < T1 := by omega
          have HQ := Lib.hid hq
          clear hT1 hq
          obtain ⟨cn, hcn⟩ : ∃ x, 9 - tx.size = x := ⟨_, rfl⟩
          have hcni : (9 : Int) - ((tx.size : Nat) : Int) = (cn : Int) := by omega
          have hcnb : cn ≤ 9 := by omega
          go_wp2_with fail
          refine (repeat_any cn hcnb w5).mono ?_
          rintro e w6 ⟨rfl, hn6⟩
          obtain ⟨zs, hzs⟩ : ∃ x, St (List.replicate cn 48) = x := ⟨_, rfl⟩
          rw [hzs]
          have hzss : zs.size = cn := by rw [← hzs, St_size]; simp
          have hsz : ¬ 9223372036854775807 < zs.size + tx.size := by omega
          have hcat : zs ++ tx = St (Txt.pad 9 lo) := by
            rw [← hzs, ← HD.out.2.2.1, St_app, ← hcn, HD.out.2.2.2.1, pad9 hlob]
          have H6 := Lib.hid (And.intro hn6 hcat)
          clear hn6 hzs hcn hcat hzss
          go_wp2_with (at_builtin; refine wpList_app elemStrs rfl _ _ rfl rfl (own_chg (own_chg (own_chg (own_chg HX.out.2.2.2.2.1 H3.out.2.2.2.2 (fun _ _ h => h)) HN5.out (fun _ _ h => h)) H6.out.1 (fun _ _ h => h)) ((Chg.refl (fun _ => False) w6).alloc (.cells #[.string (zs ++ tx)] 9)) (fun _ _ h => h)) rfl (rd_str rfl H6.out.2) (strs_one _) (by simp only [maxLen]; omega) (by omega) (by have := HX.out.2.2.2.2.2.size; have := H3.out.2.2.2.2.size; have := HN5.out.size; have := H6.out.1.size; simp; omega) ?_; intro A7 c7 w7 hown7 hg7 hat7; have HA7 := Lib.hid (And.intro hown7 (And.intro hg7 hat7)); clear hown7 hg7 hat7)
          go_roundw
          case rel =>
            refine ⟨_, T1, m, A7, k + 1, c7, hi, ps ++ [Txt.pad 9 lo], rfl, rfl, by have := HT1.out.2; omega, ?_⟩
            have hst := str_more HX.out.2.1 (by have := HD.out.2.2.2.2.2; have := HQ.out; omega)
            rw [HD.out.2.2.2.2.1, HD.out.2.2.2.2.2] at hst
            have hwm3 := HT1.out.1
            rw [H3.out.2.2.1] at hwm3
            exact S1.next HS.out H3.out.2.2.2.1 H3.out.2.2.2.2 hwm3 (HN5.out.new H6.out.1) HA7.out.1 HA7.out.2.1 hst (by rw [Txt.pad_len]; omega)
          case measure =>
            show (if T1 = 0 then 0 else 9000001 - (k + 1)) < (if m = 0 then 0 else 9000001 - k)
            rw [if_neg (by omega), if_neg (by omega)]
            omega
end Go.Proofs.YtgofjkppeobjfaaGreatDoor

namespace Go.Proofs.YtgofjkppeobjfaaGreatDoor
set_option linter.unusedVariables false
open Go.RowKit Go.Mem Go.Dig
open Go.Lib (decDigits)

def tpow (k : Nat) : Nat := 10 ^ k
/-- Texts of what is below this have at most 4934 bytes. -/
def dmax : Nat := tpow 4933
theorem pow_93 (k : Nat) : 2 ^ (93 * k) ≤ tpow (28 * k) := by
  unfold tpow
  rw [Nat.pow_mul, Nat.pow_mul]
  exact Nat.pow_le_pow_left (by decide) k
theorem tpow_add (a b : Nat) : tpow (a + b) = tpow a * tpow b := Nat.pow_add 10 a b
theorem powN_two (k m : Nat) (h : 32 * k = m) : powN k = 2 ^ m := by
  subst h
  unfold powN
  rw [Nat.pow_mul]
theorem pow_split (a b m : Nat) (h : a + b = m) : 2 ^ m = 2 ^ a * 2 ^ b := by subst h; exact Nat.pow_add 2 a b
theorem tpow_split (a b m : Nat) (h : a + b = m) : tpow m = tpow a * tpow b := by subst h; exact tpow_add a b
theorem top_gen (K J a m j : Nat) (h1 : 32 * K = m) (h2 : 93 * j + 16 = m) (h3 : 28 * j + 5 = J) : powN K + 10000 ≤ tpow J := by
  rw [powN_two K m h1, pow_split (93 * j) 16 m h2, tpow_split (28 * j) 5 J h3]
  have h := pow_93 j
  have hp : 1 ≤ 2 ^ (93 * j) := Nat.one_le_two_pow
  have e : tpow 5 = 100000 := rfl
  have e2 : (2 : Nat) ^ 16 = 65536 := rfl
  rw [e, e2]
  generalize 2 ^ (93 * j) = Y at *
  generalize tpow (28 * j) = X at *
  omega
theorem top_dmax : topN + 10000 ≤ dmax := top_gen 512 4933 0 16384 176 (by decide) (by decide) (by decide)
theorem text_short' {z : Int} {k : Nat} (h : z.natAbs < tpow k) (hk : 1 ≤ k) : (Txt.text z).length ≤ k + 1 := Txt.text_len hk h
theorem text_short {z : Int} (h : z.natAbs < dmax) : (Txt.text z).length ≤ 5000 := Nat.le_trans (text_short' (k := 4933) h (by decide)) (by decide)
theorem tpow_le (k m : Nat) (h : 4 * k ≤ m) : tpow k ≤ 2 ^ m := by
  unfold tpow
  refine Nat.le_trans (Nat.pow_le_pow_left (show 10 ≤ 2 ^ 4 by decide) k) ?_
  rw [← Nat.pow_mul]
  exact Nat.pow_le_pow_right (by omega) h
theorem dmax_pow : dmax ≤ 2 ^ 900000 := tpow_le 4933 900000 (by decide)
theorem dmax_pow' : dmax ≤ 2 ^ 1000000 := tpow_le 4933 1000000 (by decide)

/-- Parse of the text of an integer. -/
theorem wparse_text (z : Int) (hz : z.natAbs < dmax) (w : World) :
    Calls Tryz.prog 20 #[.string (St (Txt.text z))] w fun e w' => ∃ s A n c, e = .returned (.tuple #[.agg #[.bool s, .slice A n c], .int .i64 (rgE z)]) ∧ Hid (WI w' (.agg #[.bool s, .slice A n c]) (rg z) ∧ New w w') :=
  wparse_ok _ _ rfl (by rw [St_size]; exact text_short hz) z (Txt.reads_text z) w

set_option maxRecDepth 100000 in
set_option maxHeartbeats 1000000 in
theorem wider_any (v : Value) (z : Int) (w : World) (hv : RN w v z) (hz : z.natAbs < dmax) (E : Bool) (hE : (rgE z == 0) = E) :
    Calls Tryz.prog 7 #[v] w fun e w' => ∃ s A n c, e = .returned (.tuple #[.agg #[.bool s, .slice A n c], .bool E]) ∧ Hid (WI w' (.agg #[.bool s, .slice A n c]) (rg z) ∧ New w w') := by
  obtain ⟨s, A, n, c, rfl, hs, hm⟩ := hv
  have htx := fun W hn => rtext_any (.agg #[.bool s, .slice A n c]) z W (RN.new ⟨s, A, n, c, rfl, hs, hm⟩ hn) (Nat.lt_of_lt_of_le hz dmax_pow')
  have hpa := fun W => wparse_text z hz W
  obtain ⟨b, hb⟩ : ∃ b, St (Txt.text z) = b := ⟨_, rfl⟩
  rw [hb] at htx hpa
  obtain ⟨er, her⟩ : ∃ x, rgE z = x := ⟨_, rfl⟩
  rw [her] at hpa hE
  have HC := Lib.hid (And.intro htx hpa)
  have HE := Lib.hid hE
  clear htx hpa hs hm hb her hE hz
  go_enter Tryz.func7, Tryz.ntmps7
  go_wp2_with fail
  refine Calls.new2 ?_
  intro W hb1 hb2 hnW hzW
  refine (HC.out.1 W hnW).mono ?_
  rintro e w1 ⟨rfl, hn1⟩
  have hc2 := hb2.chg hn1 (fun h => h)
  have H1 := Lib.hid (And.intro hc2 (hnW.new hn1))
  clear hb1 hb2 hnW hzW hn1 hc2
  go_wp2_with fail
  refine (HC.out.2 w1).mono ?_
  rintro e w2 ⟨s2, A2, n2, c2, rfl, H2⟩
  have hn3 : New w2 (w2.alloc (.cells #[.bool s2, .slice A2 n2 c2] 29)) := (Chg.refl _ _).alloc _
  have hk2 := (H1.out.1.chg H2.out.2 (fun h => h)).chg hn3 (fun h => h)
  have g0 := hk2.cell 0 rfl
  have g1 := hk2.cell 1 rfl
  have f0 := hk2.frozen 0
  have f1 := hk2.frozen 1
  have H3 := Lib.hid (And.intro hk2 hn3)
  clear hn3 hk2
  go_wp2
  obtain ⟨hk2, hn3⟩ := H3.out
  refine bodyPost_ret (res_ct rfl _ rfl (aggInt.load (hk2.set2 _ _)) rfl) rfl ⟨s2, A2, n2, c2, ?_, (H2.out.1.new hn3).store hk2 (noInt_two _ _ _ _) (Chg.at2 _ _ _ _), ?_⟩
  · rw [← HE.out]; rfl
  · exact Chg.owned ((H1.out.2.new H2.out.2).new hn3) (Chg.at2 _ _ _ _) (fun k e => by omega)

theorem eq_texts {x a : Int} {b1 b2 : ByteArray} (h1 : St (Txt.text x) = b1) (h2 : St (Txt.text a) = b2) : (b1.toList == b2.toList) = decide (x = a) := by
  rw [Lib.toList_data, Lib.toList_data, ← h1, ← h2, St_dat, St_dat, Bool.eq_iff_iff]
  simp only [beq_iff_eq, decide_eq_true_eq]
  exact ⟨Txt.text_inj, fun h => by rw [h]⟩

set_option maxRecDepth 100000 in
set_option maxHeartbeats 2000000 in
theorem equal_any (v v' : Value) (x a : Int) (w : World) (hx : WI w v x) (ha : RN w v' a) (hpt : PowTab w) (hxb : x.natAbs < dmax) (hab : a.natAbs < dmax) (E : Bool) (hE : decide (x = a) = E) :
    Calls Tryz.prog 9 #[v, v'] w fun e w' => e = .returned (.bool E) ∧ Hid (New w w') := by
  obtain ⟨s, A, n, c, rfl, hs, hm⟩ := hx
  obtain ⟨s', A', n', c', rfl, hs', hm'⟩ := ha
  have hst := fun W hn => wstring_any (.agg #[.bool s, .slice A n c]) x W (WI.new ⟨s, A, n, c, rfl, hs, hm⟩ hn) (hpt.new hn) (Nat.lt_of_lt_of_le hxb dmax_pow)
  have htx := fun W hn => rtext_any (.agg #[.bool s', .slice A' n' c']) a W (RN.new ⟨s', A', n', c', rfl, hs', hm'⟩ hn) (Nat.lt_of_lt_of_le hab dmax_pow')
  obtain ⟨b1, hb1⟩ : ∃ b, St (Txt.text x) = b := ⟨_, rfl⟩
  obtain ⟨b2, hb2⟩ : ∃ b, St (Txt.text a) = b := ⟨_, rfl⟩
  have heq := eq_texts hb1 hb2
  rw [hE] at heq
  rw [hb1] at hst
  rw [hb2] at htx
  have HC := Lib.hid (And.intro hst htx)
  clear hst htx hs hm hs' hm' hb1 hb2 hE hxb hab hpt
  go_enter Tryz.func9, Tryz.ntmps9
  go_wp2_with fail
  refine Code.new2 ?_
  intro W hb1 hb2 hnW hzW
  have hc10 := hb1.cell 0 (u := .bool s) rfl
  have hc11 := hb1.cell 1 (u := .slice A n c) rfl
  have hc20 := hb2.cell 0 (u := .bool s') rfl
  have hc21 := hb2.cell 1 (u := .slice A' n' c') rfl
  have HW := Lib.hid hnW
  clear hb1 hb2 hnW hzW
  go_region_held3 (fun w' => w'.cell? ⟨w.heap.size, 0, none⟩ = some (.bool s) ∧ w'.cell? ⟨w.heap.size, 1, none⟩ = some (.slice A n c) ∧ w'.cell? ⟨w.heap.size + 1, 0, none⟩ = some (.bool s') ∧ w'.cell? ⟨w.heap.size + 1, 1, none⟩ = some (.slice A' n' c')) (first | exact ⟨by assumption, by assumption, by assumption, by assumption⟩)
    (first
      | (go_at_call 34; refine (HC.out.1 _ ?_).mono ?_; exact HW.out.drew; rintro e w5 ⟨rfl, hn5⟩; have HN5 := Lib.hid (((Chg.refl (fun _ => False) W).drew).new hn5); have hd10 := HN5.out.cell hc10 (fun h => h); have hd11 := HN5.out.cell hc11 (fun h => h); have hd20 := HN5.out.cell hc20 (fun h => h); have hd21 := HN5.out.cell hc21 (fun h => h); clear hn5)
      | (go_at_call 21; refine (HC.out.2 _ ?_).mono ?_; exact HW.out.new HN5.out; rintro e w6 ⟨rfl, hn6⟩; have HN6 := Lib.hid hn6; have he10 := HN6.out.cell hd10 (fun h => h); have he11 := HN6.out.cell hd11 (fun h => h); have he20 := HN6.out.cell hd20 (fun h => h); have he21 := HN6.out.cell hd21 (fun h => h); clear hn6))
  all_goals
    clear hc10 hc11 hc20 hc21 hd10 hd11 hd20 hd21
    go_wp2
    go_ret
    exact ⟨rfl, (HW.out.new HN5.out).new HN6.out⟩
end Go.Proofs.YtgofjkppeobjfaaGreatDoor
