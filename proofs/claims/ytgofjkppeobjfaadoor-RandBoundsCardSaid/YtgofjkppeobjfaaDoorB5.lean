/- The parts WideN, WideO, WideP, WideQ, BigC, BigD of the proof, in one text. -/
import Derived.Deep.LoopGhost
import Derived.Lib.ItoaNum
import Derived.Deep.CutRange
import Derived.Deep.RegionHeld3
import Derived.Stop.RegionWithIn
import Derived.Test.YtgofjkppeobjfaaDoorB4
set_option linter.unusedSimpArgs false
set_option linter.unusedVariables false

namespace Go.Proofs.YtgofjkppeobjfaaDoor
set_option linter.unusedVariables false
open Go.RowKit Go.Mem Go.Dig Go.Pure

theorem Blk.new' {w : World} {g : Nat} {t : TypeId} {cs : Array Value} (hg : g = w.heap.size) : Blk (w.alloc (.cells cs t)) g t cs := by subst hg; exact Blk.new _ _ _
theorem own_al {w : World} {g : Nat} {e : TypeId} {n c : Nat} {xs : List Value} (h : w.ownsRow g e 1 (.slice (some ⟨g, 0, none⟩) n c) n xs) (o : Obj) : (w.alloc o).ownsRow g e 1 (.slice (some ⟨g, 0, none⟩) n c) n xs := own_chg h ((Chg.refl (fun _ => False) w).alloc o) (fun _ _ h => h)
theorem own_nw {w w' : World} {g : Nat} {e : TypeId} {n c : Nat} {xs : List Value} (h : w.ownsRow g e 1 (.slice (some ⟨g, 0, none⟩) n c) n xs) (hn : New w w') : w'.ownsRow g e 1 (.slice (some ⟨g, 0, none⟩) n c) n xs := own_chg h hn (fun _ _ h => h)
theorem own_fr {w : World} {g : Nat} {e : TypeId} {n c : Nat} {xs : List Value} {p : Addr} (h : w.ownsRow g e 1 (.slice (some ⟨g, 0, none⟩) n c) n xs) (hne : g ≠ p.block) (u : Value) : (w.setCell p u).ownsRow g e 1 (.slice (some ⟨g, 0, none⟩) n c) n xs :=
  own_chg h ((Chg.refl (fun k => k = p.block) w).setCell (p := p) (fun _ => rfl) u) (fun k hk e => by simp [blk] at hk; omega)
theorem bcell {W w1 : World} (hb : Below W.heap.size W w1) : (∀ b o, b < W.heap.size → w1.cell? ⟨b, o, none⟩ = W.cell? ⟨b, o, none⟩) ∧ (∀ b o, b < W.heap.size → w1.frozen? ⟨b, o, none⟩ = W.frozen? ⟨b, o, none⟩) :=
  ⟨fun b o h => hb.cell (p := ⟨b, o, none⟩) h, fun b o h => hb.frozen (p := ⟨b, o, none⟩) h⟩
theorem bitLen32 {x : Nat} (h0 : 1 ≤ x) (h : x < 4294967296) : 1 ≤ Lib.bitLen x ∧ Lib.bitLen x ≤ 32 ∧ x < 2 ^ Lib.bitLen x := by
  have h1 := Lib.bitLenAux_bounds 64 x (by omega) (by omega)
  have h2 := Lib.bitLen_le x 32 (by omega) (by omega)
  exact ⟨h1.1, h2, h1.2.2⟩
theorem lz_any (x : Nat) (h0 : 1 ≤ x) (h : x < 4294967296) (w : World) :
    Calls Tryd.prog 87 #[.int .u32 (x : Int)] w fun e w' => ∃ s : Nat, e = .returned (.int .i64 (s : Int)) ∧ s < 32 ∧ Hid (x * 2 ^ s < 4294967296) ∧ w = w' := by
  refine (Tryd.bits_LeadingZeros32 (x : Int) w (by omega) (by omega)).mono ?_
  rintro e w' ⟨rfl, rfl⟩
  rw [Int.toNat_natCast]
  obtain ⟨h1, h2, h3⟩ := bitLen32 h0 h
  refine ⟨32 - Lib.bitLen x, ?_, by omega, ?_, rfl⟩
  · rw [show (32 : Int) - (Lib.bitLen x : Int) = ((32 - Lib.bitLen x : Nat) : Int) by omega]
  · show _ < _
    have e : (4294967296 : Nat) = 2 ^ Lib.bitLen x * 2 ^ (32 - Lib.bitLen x) := by rw [← Nat.pow_add, show Lib.bitLen x + (32 - Lib.bitLen x) = 32 by omega]
    rw [e]
    exact Nat.mul_lt_mul_of_pos_right h3 (Nat.pow_pos (by omega))
/-- The divisor, shifted: its digits without the last, which is 0. -/
theorem den_facts {lb : List Nat} {n s y : Nat} (hN : Num 4294967296 lb y) (hl : lb.length = n) (hn : 2 ≤ n) (hs : s < 32) (ht : dg lb (n - 1) * 2 ^ s < 4294967296) :
    Digs 4294967296 ((lst (n + 1) (shD 4294967296 (2 ^ s) (2 ^ (32 - s)) lb)).take n) ∧ val 4294967296 ((lst (n + 1) (shD 4294967296 (2 ^ s) (2 ^ (32 - s)) lb)).take n) = y * 2 ^ s := by
  have hPQ : 2 ^ s * 2 ^ (32 - s) = 4294967296 := by rw [← Nat.pow_add, show s + (32 - s) = 32 by omega]
  have hP : 1 ≤ 2 ^ s := Nat.one_le_two_pow
  have hQ : 1 ≤ 2 ^ (32 - s) := Nat.one_le_two_pow
  have hd : Digs 4294967296 (lst (n + 1) (shD 4294967296 (2 ^ s) (2 ^ (32 - s)) lb)) := lst_digs (fun j _ => shD_lt hQ hPQ hP hN.digs j)
  refine ⟨hd.take n, ?_⟩
  have hv := sh_val hQ hPQ hP lb
  rw [hl, hN.val] at hv
  rw [← hv, lst_succ, List.take_left' (by rw [lst_len]), val_snoc]
  have h0 : shD 4294967296 (2 ^ s) (2 ^ (32 - s)) lb n = 0 := by
    rw [shD, dg_none (by omega), Nat.zero_mul, Nat.zero_mod, if_neg (by omega), Nat.zero_add]
    apply Nat.div_eq_of_lt
    refine Nat.lt_of_mul_lt_mul_right (a := 2 ^ s) ?_
    rw [Nat.mul_comm (2 ^ (32 - s)), hPQ]
    exact ht
  rw [h0]; omega
theorem num_facts {la : List Nat} {n s x : Nat} (hN : Num 4294967296 la x) (hl : la.length = n) (hs : s < 32) :
    Digs 4294967296 (lst (n + 1) (shD 4294967296 (2 ^ s) (2 ^ (32 - s)) la)) ∧ val 4294967296 (lst (n + 1) (shD 4294967296 (2 ^ s) (2 ^ (32 - s)) la)) = x * 2 ^ s := by
  have hPQ : 2 ^ s * 2 ^ (32 - s) = 4294967296 := by rw [← Nat.pow_add, show s + (32 - s) = 32 by omega]
  have hP : 1 ≤ 2 ^ s := Nat.one_le_two_pow
  have hQ : 1 ≤ 2 ^ (32 - s) := Nat.one_le_two_pow
  refine ⟨lst_digs (fun j _ => shD_lt hQ hPQ hP hN.digs j), ?_⟩
  have hv := sh_val hQ hPQ hP la
  rwa [hl, hN.val] at hv
theorem kn_low {B x y n n' s : Nat} {L : List Nat} (hB : 1 ≤ B) (hx : x < B ^ n) (hy : B ^ (n' - 1) ≤ y) (h1 : 1 ≤ n') (hnn : n' ≤ n) (hL : L.length = n + 1) (hv : val B L = x * 2 ^ s) : val B (L.drop (n + 1 - n')) < y * 2 ^ s := by
  have h := val_split B L (n + 1 - n') (by omega)
  rw [hv] at h
  have hs : 1 ≤ 2 ^ s := Nat.one_le_two_pow
  rcases Nat.lt_or_ge (val B (L.drop (n + 1 - n'))) (y * 2 ^ s) with hlt | hge
  · exact hlt
  · exfalso
    have e1 : B ^ (n + 1 - n') * (y * 2 ^ s) ≤ B ^ (n + 1 - n') * val B (L.drop (n + 1 - n')) := Nat.mul_le_mul_left _ hge
    have e2 : B ^ n ≤ B ^ (n + 1 - n') * y := by
      have : B ^ n = B ^ (n + 1 - n') * B ^ (n' - 1) := by rw [← Nat.pow_add]; congr 1; omega
      rw [this]
      exact Nat.mul_le_mul_left _ hy
    have e3 : B ^ n * 2 ^ s ≤ B ^ (n + 1 - n') * y * 2 ^ s := Nat.mul_le_mul_right _ e2
    have e4 : x * 2 ^ s < B ^ n * 2 ^ s := Nat.mul_lt_mul_of_pos_right hx (by omega)
    rw [Nat.mul_assoc] at e3
    omega
theorem top_of_val {B : Nat} {l : List Nat} {m : Nat} (hd : Digs B l) (hl : l.length = m + 2) (hv : B ^ (m + 1) ≤ val B l) : 1 ≤ dg l (m + 1) := by
  rcases Nat.eq_zero_or_pos (dg l (m + 1)) with h0 | h0
  · exfalso
    have e : l = l.take (m + 1 + 1) := by rw [List.take_of_length_le (by omega)]
    have h1 : val B l = val B (l.take (m + 1)) := by
      have h2 := val_take_dg B l (m + 1)
      rw [h0, Nat.mul_zero, Nat.add_zero, ← e] at h2
      exact h2
    have h3 := val_lt (hd.take (m + 1))
    rw [List.length_take, Nat.min_eq_left (by omega)] at h3
    omega
  · exact h0
theorem dig_at {l : List Nat} {i : Nat} (h : i < l.length) : l[i]? = some (dg l i) := by
  rw [List.getElem?_eq_getElem h, dg_some (List.getElem?_eq_getElem h)]
theorem top_pos {B : Nat} {l : List Nat} {y n : Nat} (h : Num B l y) (hl : l.length = n) (hn : 1 ≤ n) : 1 ≤ dg l (n - 1) := by
  rcases Nat.eq_zero_or_pos (dg l (n - 1)) with h0 | h0
  · exfalso
    have ht := h.trim
    unfold Trim at ht
    apply ht
    rw [List.getLast?_eq_getElem?, hl, dig_at (by omega), h0]
  · exact h0

theorem WM.chg {S : Nat → Prop} {w w' : World} {A : Option Addr} {n c m : Nat} (h : WM w A n c m) (hc : Chg S w w') (hs : ∀ k, blk A = some k → ¬ S k) : WM w' A n c m := by
  obtain ⟨l, h1, h2⟩ := h
  exact ⟨l, h1.chg hc (fun k hk _ => hs k hk), h2⟩
theorem low_len' {s n : Nat} {L : List Nat} (hn : n ≤ L.length) : (lwL s n L n).take n = low 4294967296 (2 ^ s) (2 ^ (32 - s)) (L.take n) := by
  have hl : (low 4294967296 (2 ^ s) (2 ^ (32 - s)) (L.take n)).length = n := by rw [low_len]; simp; omega
  unfold lwL
  rw [List.take_of_length_le (l := low _ _ _ _) (by omega), List.take_left' hl]
theorem div_ends {x y s X D N n : Nat} {L q : List Nat} (hX : x * 2 ^ s = X) (hD : y * 2 ^ s = D) (h : KnI 4294967296 X D N n 0 L q) (hn : n ≤ N) (hDn : D ≤ 4294967296 ^ n) (hs : s < 32) :
    val 4294967296 q = x / y ∧ val 4294967296 (low 4294967296 (2 ^ s) (2 ^ (32 - s)) (L.take n)) = x % y := by
  obtain ⟨h1, h2⟩ := h.done
  have hp : 0 < 2 ^ s := Nat.pow_pos (by omega)
  have hlow := h.low
  rw [List.drop_zero] at hlow
  have hPQ : 2 ^ s * 2 ^ (32 - s) = 4294967296 := by rw [← Nat.pow_add, show s + (32 - s) = 32 by omega]
  refine ⟨by rw [h1, ← hX, ← hD, Nat.mul_div_mul_right _ _ hp], ?_⟩
  rw [low_val hPQ Nat.one_le_two_pow Nat.one_le_two_pow]
  have hsp := val_split 4294967296 L n (by rw [h.len]; exact hn)
  have h0 : val 4294967296 (L.drop n) = 0 := by
    rcases Nat.eq_zero_or_pos (val 4294967296 (L.drop n)) with h0 | h0
    · exact h0
    · have := Nat.le_mul_of_pos_right (4294967296 ^ n) h0
      omega
  rw [h0, Nat.mul_zero, Nat.add_zero] at hsp
  rw [← hsp, h2, ← hX, ← hD, Nat.mul_mod_mul_right, Nat.mul_div_cancel _ hp]

set_option maxRecDepth 100000 in
set_option maxHeartbeats 4000000 in
theorem divMag_long (A : Option Addr) (n c : Nat) (A' : Option Addr) (n' c' : Nat) (x y : Nat) (w : World) (hx : WM w A n c x) (hy : WM w A' n' c' y) (hn : n ≤ 900000) (hn' : 2 ≤ n') (hle : y ≤ x) :
    Calls Tryd.prog 64 #[.slice A n c, .slice A' n' c'] w fun e w' => ∃ Q nq cq R nr cr, e = .returned (.tuple #[.slice Q nq cq, .slice R nr cr]) ∧ Hid (WM w' Q nq cq (x / y) ∧ WM w' R nr cr (x % y) ∧ New w w') := by
  obtain ⟨la, ha, hc1, hc2, hNa⟩ := hx
  obtain ⟨lb, hb, hd1, hd2, hNb⟩ := hy
  have hla : la.length = n := by have := ha.len; rwa [nv_length] at this
  have hlb : lb.length = n' := by have := hb.len; rwa [nv_length] at this
  have hnn : n' ≤ n := by
    rcases Nat.lt_or_ge n n' with h | h
    · have := hNa.len_lt (by omega) hNb (by omega); omega
    · exact h
  obtain ⟨t, ht⟩ : ∃ t, dg lb (n' - 1) = t := ⟨_, rfl⟩
  have ht1 := top_pos hNb hlb (by omega)
  rw [ht] at ht1
  have htb : t < 4294967296 := by rw [← ht]; exact dg_lt hNb.digs (by omega) _
  obtain ⟨j1, hj1⟩ : ∃ j, n' - 1 = j := ⟨_, rfl⟩
  obtain ⟨bd, u, rfl, hu, hcu⟩ := hb.at_ (show j1 < n' by omega)
  obtain ⟨z, hz, rfl⟩ := nv_at hu
  obtain rfl : t = z := by rw [← ht, hj1, dg_some hz]
  have hji : (n' : Int) - 1 = (j1 : Int) := by omega
  have hjn : j1 < n' := by omega
  have H0 := Lib.hid (And.intro ha (And.intro hb (And.intro hNa (And.intro hNb (And.intro hla (And.intro hlb ht))))))
  have hcm : Calls Tryd.prog 67 #[.slice A n c, .slice (some bd) n' c'] w fun e w' => e = .returned (.int .i64 (cmpI x y)) ∧ ∃ q, w' = w.drewN q := cmpMag_any _ _ _ _ _ _ x y w ⟨la, ha, hc1, hc2, hNa⟩ ⟨lb, hb, hd1, hd2, hNb⟩
  have HC := Lib.hid hcm
  have hcv : decide (cmpI (x : Int) (y : Int) < 0) = false := by
    unfold cmpI
    rw [if_neg (by omega)]
    split <;> decide
  have hne1 : ((n' : Int) == 1) = false := by simp; omega
  clear hcm ha hb hNa hNb hla hlb ht hu hz hj1
  go_enter Tryd.func64, Tryd.ntmps64
  go_wp2_with fail
  go_step3
  go_wp2_with fail
  refine HC.out.mono ?_
  rintro e w1 ⟨rfl, q1, hq1⟩
  generalize cmpI (x : Int) (y : Int) = cv at *
  have hn1 : New w w1 := by rw [hq1]; exact (Chg.refl _ _).drewN q1
  have hcu1 := hn1.cell hcu (fun h => h)
  have HN1 := Lib.hid hn1
  clear hcu hn1 hq1 HC
  go_wp2_with fail
  refine (lz_any t ht1 htb w1).mono ?_
  rintro e w2 ⟨s, rfl, hs, HS, rfl⟩
  clear hcu1
  have hca : ∀ W', New w1 W' → Calls Tryd.prog 88 #[.slice A n c, .int .i64 s] W' fun e w' => ∃ g, e = .returned (.slice (some ⟨g, 0, none⟩) ((n + 1 : Nat)) ((n + 1 : Nat))) ∧ Hid (w'.ownsRow g 79 1 (.slice (some ⟨g, 0, none⟩) ((n + 1 : Nat)) ((n + 1 : Nat))) (n + 1) (nv .u32 (lst (n + 1) (shD 4294967296 (2 ^ s) (2 ^ (32 - s)) la)))) ∧ Hid (g = W'.heap.size) ∧ Hid (New W' w') := fun W' h =>
    (shifted_any A n c s W' la (H0.out.1.new (HN1.out.new h)) H0.out.2.2.1.digs hc1 (by unfold maxLen; omega) (by omega) hs).mono fun e w' ⟨g, h1, h2⟩ => ⟨g, h1, h2.out.1, h2.out.2.1, h2.out.2.2⟩
  have hcb : ∀ W', New w1 W' → Calls Tryd.prog 88 #[.slice (some bd) n' c', .int .i64 s] W' fun e w' => ∃ g, e = .returned (.slice (some ⟨g, 0, none⟩) ((n' + 1 : Nat)) ((n' + 1 : Nat))) ∧ Hid (w'.ownsRow g 79 1 (.slice (some ⟨g, 0, none⟩) ((n' + 1 : Nat)) ((n' + 1 : Nat))) (n' + 1) (nv .u32 (lst (n' + 1) (shD 4294967296 (2 ^ s) (2 ^ (32 - s)) lb)))) ∧ Hid (g = W'.heap.size) ∧ Hid (New W' w') := fun W' h =>
    (shifted_any (some bd) n' c' s W' lb (H0.out.2.1.new (HN1.out.new h)) H0.out.2.2.2.1.digs hd1 (by unfold maxLen; omega) (by omega) hs).mono fun e w' ⟨g, h1, h2⟩ => ⟨g, h1, h2.out.1, h2.out.2.1, h2.out.2.2⟩
  have HA := Lib.hid (And.intro hca hcb)
  clear hca hcb
  have hup := fun (W : World) (g : Nat) => run_upto elemU32 .i64 (some ⟨g, 0, none⟩) (n' + 1) (n' + 1) n' (n' : Int) rfl (by omega) W
  go_upto_region 7 with fail
  generalize hWb : w1 = Wb at *
  clear hWb
  go_cut [9, 10] from 48 to 56 (fun v u wc => ∃ g gd gN gD : Nat, v = .pointer (some ⟨gN, 0, none⟩) ∧ u = .pointer (some ⟨gD, 0, none⟩) ∧ Hid (Blk wc gN 31 #[.slice (some ⟨g, 0, none⟩) (n + 1) (n + 1)] ∧ Blk wc gD 31 #[.slice (some ⟨gd, 0, none⟩) n' (n' + 1)] ∧ gN ≠ gD ∧ g < gd ∧ wc.ownsRow g 79 1 (.slice (some ⟨g, 0, none⟩) ((n + 1 : Nat)) ((n + 1 : Nat))) (n + 1) (nv .u32 (lst (n + 1) (shD 4294967296 (2 ^ s) (2 ^ (32 - s)) la))) ∧ wc.ownsRow gd 79 1 (.slice (some ⟨gd, 0, none⟩) ((n' + 1 : Nat)) ((n' + 1 : Nat))) (n' + 1) (nv .u32 (lst (n' + 1) (shD 4294967296 (2 ^ s) (2 ^ (32 - s)) lb))) ∧ w.heap.size ≤ g ∧ w.heap.size ≤ gN ∧ w.heap.size ≤ gD ∧ New w wc))
  case first =>
    go_region_with (first
      | (go_at_call 88; (with_reducible refine (HA.out.1 _ ?_).mono ?_); (first | exact (Chg.refl _ _).drew | exact ((Chg.refl _ _).alloc _).drew | exact (((Chg.refl _ _).alloc _).alloc _).drew); rintro e w5 ⟨g, rfl, HO5, HG5, HN5⟩; (have HB5 : New Wb w5 := by (first | exact ((Chg.refl _ _).drew).new HN5.out | exact (((Chg.refl _ _).alloc _).drew).new HN5.out | exact ((((Chg.refl _ _).alloc _).alloc _).drew).new HN5.out)); obtain ⟨hc5, hf5⟩ := bcell (New.below HN5.out); (have hz5 := HN5.out.size); (try simp only [World.size_alloc, World.drew] at hz5); (try have hs51 : Wb.heap.size < w5.heap.size := by omega); (try have hs52 : Wb.heap.size + 1 < w5.heap.size := by omega))
      | (go_at_call 88; (with_reducible refine (HA.out.2 _ ?_).mono ?_); (first | exact HB5 | exact HB5.alloc _ | exact (HB5.alloc _).alloc _); rintro e w6 ⟨gd, rfl, HO6, HG6, HN6⟩; obtain ⟨hc6, hf6⟩ := bcell (New.below HN6.out); (have hz6 := HN6.out.size); (try simp only [World.size_alloc, World.drew] at hz6); (have HB6 : New Wb w6 := by (first | exact HB5.new HN6.out | exact (HB5.alloc _).new HN6.out | exact ((HB5.alloc _).alloc _).new HN6.out)); (try have hs61 : Wb.heap.size < w6.heap.size := by omega); (try have hs62 : Wb.heap.size + 1 < w6.heap.size := by omega); (try have hs63 : w5.heap.size < w6.heap.size := by omega); (try have hs64 : w5.heap.size + 1 < w6.heap.size := by omega)))
    all_goals
      clear hc5 hf5 hc6 hf6 hup
      go_wp2_with fail
      go_meet
      case rel =>
        have hg5 := HG5.out
        have hg6 := HG6.out
        (try simp only [World.size_alloc, World.drew] at hg5)
        (try simp only [World.size_alloc, World.drew] at hg6)
        have hg5b := (own_blk_le HO5.out (k := g) (by simp [blk])).2
        have hs0 := HN1.out.size
        have hz65 := HN6.out.size
        (try simp only [World.size_alloc] at hz65)
        have hw6 : New w w6 := HN1.out.new HB6
        refine ⟨g, gd, _, _, rfl, rfl, ?_, ?_, ?_, ?_, ?_, ?_, ?_, ?_, ?_, ?_⟩
        · repeat (first | (refine Blk.new' ?_; (first | rfl | (simp; done))) | refine Blk.alloc ?_ _ | refine Blk.set1 (x := .slice none 0 0) ?_ _ | (refine Blk.far (p := ⟨_, 0, none⟩) ?_ ?_ _; rotate_left; (dsimp only; omega)) | refine Blk.chg ?_ HN6.out (fun h => h) | refine Blk.chg ?_ HN5.out (fun h => h) | refine Blk.drew ?_)
        · repeat (first | (refine Blk.new' ?_; (first | rfl | (simp; done))) | refine Blk.alloc ?_ _ | refine Blk.set1 (x := .slice none 0 0) ?_ _ | (refine Blk.far (p := ⟨_, 0, none⟩) ?_ ?_ _; rotate_left; (dsimp only; omega)) | refine Blk.chg ?_ HN6.out (fun h => h) | refine Blk.chg ?_ HN5.out (fun h => h) | refine Blk.drew ?_)
        · omega
        · omega
        · repeat (first | exact HO5.out | refine own_al ?_ _ | (refine own_fr (p := ⟨_, 0, none⟩) ?_ ?_ _; rotate_left; (dsimp only; omega)) | refine own_nw ?_ HN6.out)
        · repeat (first | exact HO6.out | refine own_al ?_ _ | (refine own_fr (p := ⟨_, 0, none⟩) ?_ ?_ _; rotate_left; (dsimp only; omega)))
        · omega
        · omega
        · omega
        · repeat (first | exact hw6 | refine Chg.alloc ?_ _ | refine Chg.setCell ?_ (fun h => absurd h (by dsimp only; omega)) _)
  case rest =>
    obtain ⟨g, gd, gN, gD, rfl, rfl, HR⟩ := hcut
    clear HA hup
    obtain ⟨bN, bD, hND, hggd, ho, hod, hwg, hwN, hwD, hnw⟩ := HR.out
    obtain ⟨N, hN⟩ : ∃ N, n + 1 = N := ⟨_, rfl⟩
    obtain ⟨K, hK⟩ : ∃ K, N - n' = K := ⟨_, rfl⟩
    have hKi : (N : Int) - (n' : Int) = (K : Int) := by omega
    have hK1 : 1 ≤ K := by omega
    have hNb : N ≤ 900001 := by omega
    have hKN : K + n' = N := by omega
    have hkD := bD.cell 0 (u := .slice (some ⟨gd, 0, none⟩) n' (n' + 1)) rfl
    obtain ⟨hNaX, hNbX, hlaX, hlbX, htX⟩ := H0.out.2.2
    obtain ⟨hnumd, hnumv⟩ := num_facts hNaX hlaX hs
    obtain ⟨hdend, hdenv⟩ := den_facts hNbX hlbX hn' hs (by rw [htX]; exact HS.out)
    obtain ⟨L, hL⟩ : ∃ L, lst (n + 1) (shD 4294967296 (2 ^ s) (2 ^ (32 - s)) la) = L := ⟨_, rfl⟩
    obtain ⟨ld2, hld2⟩ : ∃ l, lst (n' + 1) (shD 4294967296 (2 ^ s) (2 ^ (32 - s)) lb) = l := ⟨_, rfl⟩
    obtain ⟨ld, hld⟩ : ∃ l, ld2.take n' = l := ⟨_, rfl⟩
    rw [hL] at hnumd hnumv ho
    have hLl : L.length = N := by rw [← hL, lst_len, hN]
    rw [hN] at ho bN
    have hkN := bN.cell 0 (u := .slice (some ⟨g, 0, none⟩) N N) rfl
    rw [hld2] at hod
    rw [hld2, hld] at hdend hdenv
    have hld2l : ld2.length = n' + 1 := by rw [← hld2, lst_len]
    have hldl : ld.length = n' := by rw [← hld]; simp [hld2l]
    have hrd : Rd wc (some ⟨gd, 0, none⟩) n' (nv .u32 ld) := by
      have := (Rd.of_own hod).take (k := n') (by omega)
      rwa [nv_take, hld] at this
    obtain ⟨m, hm⟩ : ∃ m, n' = m + 2 := ⟨n' - 2, by omega⟩
    have hj1m : j1 = m + 1 := by omega
    obtain ⟨ld1, hld1⟩ : ∃ d, dg ld j1 = d := ⟨_, rfl⟩
    obtain ⟨nx, hnx⟩ : ∃ d, dg ld m = d := ⟨_, rfl⟩
    have hk1 : wc.cell? ⟨gd, j1, none⟩ = some (.int .u32 (ld1 : Int)) := by
      have := hrd.at_ (k := j1) (by omega)
      obtain ⟨ad, u, hA, hu, hc⟩ := this
      injection hA with hA
      subst hA
      obtain ⟨z, hz, rfl⟩ := nv_at hu
      rw [Addr.add_lit, Nat.zero_add] at hc
      rw [hc, ← hld1, dg_some hz]
    have hk0 : wc.cell? ⟨gd, m, none⟩ = some (.int .u32 (nx : Int)) := by
      have := hrd.at_ (k := m) (by omega)
      obtain ⟨ad, u, hA, hu, hc⟩ := this
      injection hA with hA
      subst hA
      obtain ⟨z, hz, rfl⟩ := nv_at hu
      rw [Addr.add_lit, Nat.zero_add] at hc
      rw [hc, ← hnx, dg_some hz]
    have hld1b : ld1 < 4294967296 := by rw [← hld1]; exact dg_lt hdend (by omega) _
    have hnxb : nx < 4294967296 := by rw [← hnx]; exact dg_lt hdend (by omega) _
    have hmn : m < n' := by omega
    have hw1 : IntKind.i64.wrap ((n' : Int) - 1) = (j1 : Int) := by rw [IntWalk.i64_in _ (by omega)]; omega
    have hw2 : IntKind.i64.wrap ((n' : Int) - 2) = (m : Int) := by rw [IntWalk.i64_in _ (by omega)]; omega
    have HM := Lib.hid (And.intro hm (And.intro hj1m (And.intro hN (And.intro hK hKN))))
    have HD := Lib.hid (And.intro hnumd (And.intro hnumv (And.intro hdend (And.intro hdenv (And.intro hLl (And.intro hldl (And.intro hld1 (And.intro hnx (And.intro hrd (And.intro ho (And.intro bN (And.intro bD (And.intro hND (And.intro hggd (And.intro hwg (And.intro hwN (And.intro hwD hnw)))))))))))))))))
    clear hm hj1m hN hK hKN hnumd hnumv hdend hdenv hLl hldl hld1 hnx hrd ho bN bD hND hggd hwg hwN hwD hnw hL hld2 hld hld2l hod HR hNaX hNbX hlaX hlbX htX hji
    go_upto_region 9 with fail
    refine Code.new1 ?_
    intro W1 bn hnW1 hzW1
    obtain ⟨gn, hgn⟩ : ∃ k, wc.heap.size = k := ⟨_, rfl⟩
    rw [hgn] at bn
    simp only [hgn]
    have hkN1 := hnW1.cell hkN (fun h => h)
    have hkD1 := hnW1.cell hkD (fun h => h)
    have hk11 := hnW1.cell hk1 (fun h => h)
    have hk01 := hnW1.cell hk0 (fun h => h)
    have hkn1 := bn.cell 0 (u := .int .i64 n') rfl
    have H1 := Lib.hid (And.intro bn (And.intro hnW1 hgn))
    clear hkN hkD hk1 hk0 bn hnW1 hzW1 hgn
    go_quiet (fail)
    obtain ⟨W2, hW2⟩ : ∃ W2, W1.drewN nq = W2 := ⟨_, rfl⟩
    have hn12 : New W1 W2 := by rw [← hW2]; exact (Chg.refl _ _).drewN nq
    simp only [hW2]
    have hkN2 := hn12.cell hkN1 (fun h => h)
    have hkn2 := hn12.cell hkn1 (fun h => h)
    have HN2 := Lib.hid hn12
    clear hkN1 hkD1 hk11 hk01 hkn1 hW2 hn12 hw1 hw2
    go_wp2_with (at_make; refine wpList_mk elemU32 rfl rfl _ _ rfl (n := K) rfl rfl (by omega) (by omega) (by omega) (by simp only [maxLen]; omega) ?_; intro w3 hown3 hg3 hz3; have HMK := Lib.hid (And.intro hown3 (And.intro hg3 hz3)); have hkN3 := hg3.cell hkN2 (fun h => h); have hkn3 := hg3.cell hkn2 (fun h => h); clear hown3 hg3 hz3)
    refine Code.new1 ?_
    intro W bQ hnW hzW
    obtain ⟨gq, hgq⟩ : ∃ k, W2.heap.size = k := ⟨_, rfl⟩
    obtain ⟨gQ, hgQ⟩ : ∃ k, w3.heap.size = k := ⟨_, rfl⟩
    obtain ⟨hmk1, hmk2, hmk3⟩ := HMK.out
    obtain ⟨hm, hj1m, hN, hK, hKN⟩ := HM.out
    obtain ⟨hnumd, hnumv, hdend, hdenv, hLl, hldl, hld1, hnx, hrd, ho, bN, bD, hND, hggd, hwg, hwN, hwD, hnw⟩ := HD.out
    obtain ⟨bn, hnW1, hgn⟩ := H1.out
    obtain ⟨haX, hbX, hNaX, hNbX, hlaX, hlbX, htX⟩ := H0.out
    rw [hgq] at hmk1 bQ
    rw [hgQ] at bQ
    have hnc : New wc W := ((hnW1.new HN2.out).new hmk2).new hnW
    have hDpos : 1 ≤ y * 2 ^ s := by
      have h1 : 1 ≤ y := by
        have := hNbX.nil_iff (by omega)
        rcases Nat.eq_zero_or_pos y with h0 | h0
        · rw [this.2 h0] at hlbX; simp at hlbX; omega
        · exact h0
      exact Nat.mul_pos h1 (Nat.pow_pos (by omega))
    have hsz := hnW1.size
    have hsz2 := HN2.out.size
    have hgNl := bN.lt
    have hgDl := bD.lt
    have hgl := (own_blk_le ho (k := g) (by simp [blk])).2
    have hgnl := bn.lt
    have hgdl : gd < wc.heap.size := by
      obtain ⟨ad, u, hA, hu, hc⟩ := hrd.at_ (k := 0) (by omega)
      injection hA with hA
      subst hA
      exact World.block_lt_of_cell? _ _ (by rw [Addr.add_lit] at hc; exact hc)
    have hgNg : gN ≠ g := fun e => (bN.ne_own ho (by decide)) (by simp [blk, e])
    have hgDg : gD ≠ g := fun e => (bD.ne_own ho (by decide)) (by simp [blk, e])
    have hDC : DvC W g gd gq gN gn gD gQ N n' ld (y * 2 ^ s) := ⟨bN.chg hnc (fun h => h), bn.chg ((HN2.out.new hmk2).new hnW) (fun h => h), bD.chg hnc (fun h => h), by rw [hK]; exact bQ, hrd.new hnc, hdend, hdenv, hDpos, by omega, by omega, by omega⟩
    have hstart : DvW W g gq (x * 2 ^ s) (y * 2 ^ s) N n' K W := by
      refine ⟨L, List.replicate K 0, ?_, own_chg ho hnc (fun _ _ h => h), ?_, Chg.refl _ _⟩
      · have := KnI.start (B := 4294967296) (X := x * 2 ^ s) (D := y * 2 ^ s) (N := N) (n := n') (L := L) (by omega) hLl hnumd hnumv (by
          rw [← hN]
          refine kn_low (by omega) (hNaX.lt (by omega) (by omega)) ?_ (by omega) hnn (by omega) hnumv
          have := val_pos (B := 4294967296) (by omega) hNbX.trim (by intro e; rw [e] at hlbX; simp at hlbX; omega)
          rwa [hlbX, hNbX.val] at this)
        rwa [hK] at this
      · rw [hK]
        have := own_chg hmk1 hnW (fun _ _ h => h)
        rwa [show List.replicate K (Value.int .u32 0) = nv .u32 (List.replicate K 0) by simp [nv]] at this
    have HX := Lib.hid (And.intro hDC (And.intro hstart (And.intro (hnw.new hnc) (And.intro hwg (show w.heap.size ≤ gq by have := hnw.size; omega)))))
    have HTV : Hid (4294967296 ^ (m + 1) ≤ val 4294967296 ld) := by
      show _ ≤ _
      rw [hdenv]
      have := val_pos (B := 4294967296) (by omega) hNbX.trim (by intro e; rw [e] at hlbX; simp at hlbX; omega)
      rw [hlbX, hNbX.val, hm, show m + 2 - 1 = m + 1 by omega] at this
      exact Nat.le_trans this (Nat.le_mul_of_pos_right _ (Nat.pow_pos (by omega)))
    simp only [hgq]
    simp only [hgQ]
    clear hgq hgQ hmk1 hmk2 hmk3 hm hj1m hN hK hKN hnumd hnumv hdend hdenv hLl hldl hld1 hnx hrd ho bN bD hND hggd hwg hwN hwD hnw bn hnW1 hgn haX hbX hNaX hNbX hlaX hlbX htX bQ hnc hDpos hsz hsz2 hgNl hgDl hgl hgnl hgdl hgNg hgDg hDC hstart hnW hzW HMK hkN3 hkn3 hkN2 hkn2
    have hkNW := HX.out.1.bN.cell 0 (u := .slice (some ⟨g, 0, none⟩) N N) rfl
    have hknW := HX.out.1.bn.cell 0 (u := .int .i64 n') rfl
    obtain ⟨X, hX⟩ : ∃ X, x * 2 ^ s = X := ⟨_, rfl⟩
    obtain ⟨D, hD⟩ : ∃ D, y * 2 ^ s = D := ⟨_, rfl⟩
    rw [hX, hD] at HX
    have HXD := Lib.hid (And.intro hX hD)
    clear hX hD
    go_step3
    go_wp2_with fail
    clear hkNW hknW hKi
    go_loopg [16] K (fun k s16 wr => s16 = .int .i64 ((k : Int) - 1) ∧ k ≤ K ∧ Hid (DvW W g gq X D N n' k wr))
    case atStart => exact ⟨rfl, Nat.le_refl _, HX.out.2.1⟩
    case round =>
      obtain ⟨rfl, hkK, HV⟩ := hrel
      obtain ⟨wo, rfl⟩ : ∃ wo : World, wo = wr := ⟨_, rfl⟩
      have hCW := HX.out.1.chg HV.out.choose_spec.choose_spec.2.2.2
      have hkNo := hCW.bN.cell 0 (u := .slice (some ⟨g, 0, none⟩) N N) rfl
      have hkno := hCW.bn.cell 0 (u := .int .i64 n') rfl
      have hkQo := hCW.bQ.cell 0 (u := .slice (some ⟨gq, 0, none⟩) (N - n') (N - n')) rfl
      have HCW := Lib.hid hCW
      clear hCW
      cases gk with
      | zero =>
        obtain ⟨Lc, qc, hKn, hLo, hqo, hcho⟩ := HV.out
        obtain ⟨hm, hj1m, hN, hK, hKN⟩ := HM.out
        have hC0 := HX.out.1
        have hDn : D ≤ 4294967296 ^ n' := by
          have h1 := val_lt hC0.dd
          have h2 := hC0.rd.len
          rw [nv_length] at h2
          rw [hC0.vd, h2] at h1
          omega
        obtain ⟨hv1, hv2⟩ := div_ends HXD.out.1 HXD.out.2 hKn (by omega) hDn hs
        have hne := hC0.ne
        have hnN : n' ≤ N := by omega
        have hT1 : ∀ W', New wo W' → Calls Tryd.prog 54 #[.slice (some ⟨gq, 0, none⟩) (N - n') (N - n')] W' fun e w' => ∃ T, e = .returned (.slice (some ⟨gq, 0, none⟩) T (N - n')) ∧ Hid (WM W' (some ⟨gq, 0, none⟩) T (N - n') (x / y)) ∧ W' = w' := fun W' h =>
          (trim_wm _ _ _ qc W' ((Rd.of_own hqo).new h) hKn.qdigs (Nat.le_refl _) (by omega)).mono fun e w' ⟨T, h1, h2, h3⟩ => ⟨T, h1, by have := h2.out.1; rw [hv1] at this; exact this, h3⟩
        have hLw : ∀ W', New wo W' → Calls Tryd.prog 91 #[.slice (some ⟨g, 0, none⟩) n' N, .int .i64 s] W' fun e w' => e = .returned (.slice (some ⟨g, 0, none⟩) n' N) ∧ Hid (w'.ownsRow g 79 1 (.slice (some ⟨g, 0, none⟩) N N) N (nv .u32 (lwL s n' Lc n')) ∧ Chg (fun k => k = g) wo w') := fun W' h =>
          (lowered_any g n' N s Lc W' (own_chg hLo h (fun _ _ h => h)) hKn.digs hnN (by omega) hs).mono fun e w' ⟨h1, h2⟩ => ⟨h1, h2.out.1, (h.mono (fun _ _ h => h.elim)).trans h2.out.2 (fun _ _ h => h)⟩
        have hT2 : ∀ W', W'.ownsRow g 79 1 (.slice (some ⟨g, 0, none⟩) N N) N (nv .u32 (lwL s n' Lc n')) → Calls Tryd.prog 54 #[.slice (some ⟨g, 0, none⟩) n' N] W' fun e w' => ∃ T, e = .returned (.slice (some ⟨g, 0, none⟩) T N) ∧ Hid (WM W' (some ⟨g, 0, none⟩) T N (x % y)) ∧ W' = w' := fun W' h => by
          have hr := (Rd.of_own h).take (k := n') hnN
          rw [nv_take, low_len' (by rw [hKn.len]; exact hnN)] at hr
          exact (trim_wm _ _ _ _ W' hr (low_digs (by rw [← Nat.pow_add, show s + (32 - s) = 32 by omega]) Nat.one_le_two_pow Nat.one_le_two_pow (hKn.digs.take n')) hnN (by omega)).mono fun e w' ⟨T, h1, h2, h3⟩ => ⟨T, h1, by have := h2.out.1; rw [hv2] at this; exact this, h3⟩
        have HT := Lib.hid (And.intro hT1 (And.intro hLw hT2))
        have HEND := Lib.hid (And.intro hcho (And.intro HX.out.2.2 hne))
        have hup : ∀ W, (Instr.slice 31 (.slice (some ⟨g, 0, none⟩) N N) none (some (.int .i64 (n' : Int))) none).run Tryd.prog W = .ok (.slice (some ⟨g, 0, none⟩) n' N) W := fun W => run_upto elemU32 .i64 (some ⟨g, 0, none⟩) N N n' (n' : Int) rfl hnN W
        clear hKn hLo hqo hcho hm hj1m hN hK hKN hC0 hDn hv1 hv2 hne hT1 hLw hT2
        have hneg : decide ((0 : Int) ≤ ((0 : Nat) : Int) - 1) = false := by simp
        rw [show (((0 : Nat) : Int) - 1) = -1 by rfl]
        go_wp2_with fail
        go_region_held3 (fun w' => w'.cell? ⟨gQ, 0, none⟩ = some (.slice (some ⟨gq, 0, none⟩) (N - n') (N - n')) ∧ w'.cell? ⟨gN, 0, none⟩ = some (.slice (some ⟨g, 0, none⟩) N N) ∧ w'.cell? ⟨gn, 0, none⟩ = some (.int .i64 n')) (first | exact ⟨by assumption, by assumption, by assumption⟩)
          (first
            | (go_at_call 54; (with_reducible refine (HT.out.1 _ ?_).mono ?_); exact (Chg.refl _ _).drew; rintro e w4 ⟨T1, rfl, HW4, rfl⟩)
            | (go_at_call 91; (with_reducible refine (HT.out.2.1 _ ?_).mono ?_); exact (Chg.refl _ _).drew; rintro e w5 ⟨rfl, H5⟩; have hd1 := H5.out.2.cell hkQo (by have := HEND.out.2.2; dsimp only; omega); have hd2 := H5.out.2.cell hkNo (by have := HEND.out.2.2; dsimp only; omega); have hd3 := H5.out.2.cell hkno (by have := HEND.out.2.2; dsimp only; omega))
            | (go_at_call 54; (with_reducible refine (HT.out.2.2 _ H5.out.1).mono ?_); rintro e w6 ⟨T2, rfl, HW6, rfl⟩))
        all_goals
          clear hd1 hd2 hd3 hkNo hkno hkQo hup
          go_wp2_with fail
          (try rw [Exit.noGoto_ret])
          go_ret2
          obtain ⟨hcho, ⟨hnW, hg1, hg2⟩, hne⟩ := HEND.out
          have hc5 : Chg (fun k => k = g) wo.drew w5 := ⟨H5.out.2.os, H5.out.2.tape, H5.out.2.output, H5.out.2.size, H5.out.2.block⟩
          refine ⟨_, _, _, _, _, _, rfl, HW4.out.chg hc5 (fun k hk e => by simp [blk] at hk; omega), HW6.out, ?_⟩
          refine hnW.trans (T := fun k => k = g ∨ k = gq) (hcho.trans H5.out.2 (fun _ _ h => .inl h)) (fun k hk e => by omega)
      | succ j =>
        have hj0 : (((j + 1 : Nat) : Int) - 1) = (j : Int) := by omega
        rw [hj0]
        clear hj0
        obtain ⟨Lc, qc, hKn, hLo, hqo, hcho⟩ := HV.out
        obtain ⟨hm, hj1m, hN, hK, hKN⟩ := HM.out
        obtain ⟨hnumd, hnumv, hdend, hdenv, hLl, hldl, hld1, hnx, hrd, ho, bN, bD, hND, hggd, hwg, hwN, hwD, hnw⟩ := HD.out
        have hjn : j + (n' + 1) ≤ N := by omega
        obtain ⟨U, hU⟩ : ∃ U, val 4294967296 ((Lc.drop j).take (n' + 1)) = U := ⟨_, rfl⟩
        have hes := hKn.esb (m := m) (b := ld) (by omega) hm hdend hldl HX.out.1.vd (top_of_val hdend (by omega) HTV.out) hU
        have hu2 := own_cell hLo (i := j + n') (u := .int .u32 (dg Lc (j + n') : Nat)) (by rw [nv, List.getElem?_map, dig_at (by have := hKn.len; omega)]; rfl)
        have hu1 := own_cell hLo (i := j + j1) (u := .int .u32 (dg Lc (j + j1) : Nat)) (by rw [nv, List.getElem?_map, dig_at (by have := hKn.len; omega)]; rfl)
        have hu0 := own_cell hLo (i := j + m) (u := .int .u32 (dg Lc (j + m) : Nat)) (by rw [nv, List.getElem?_map, dig_at (by have := hKn.len; omega)]; rfl)
        have hb2 := dg_lt hKn.digs (by omega) (j + n')
        have hb1 := dg_lt hKn.digs (by omega) (j + j1)
        have hb0 := dg_lt hKn.digs (by omega) (j + m)
        rw [← hm, ← hj1m, hld1, hnx] at hes
        obtain ⟨u2, hu2e⟩ : ∃ d, dg Lc (j + n') = d := ⟨_, rfl⟩
        obtain ⟨u1, hu1e⟩ : ∃ d, dg Lc (j + j1) = d := ⟨_, rfl⟩
        obtain ⟨u0, hu0e⟩ : ∃ d, dg Lc (j + m) = d := ⟨_, rfl⟩
        obtain ⟨a2, ha2⟩ : ∃ a, j + n' = a := ⟨_, rfl⟩
        obtain ⟨a1, ha1⟩ : ∃ a, j + j1 = a := ⟨_, rfl⟩
        obtain ⟨a0, ha0⟩ : ∃ a, j + m = a := ⟨_, rfl⟩
        rw [hu2e] at hu2 hb2 hes
        rw [hu1e] at hu1 hb1 hes
        rw [hu0e] at hu0 hb0 hes
        rw [ha2] at hu2
        rw [ha1] at hu1
        rw [ha0] at hu0
        obtain ⟨T, hT⟩ : ∃ T, u2 * 4294967296 + u1 = T := ⟨_, rfl⟩
        rw [hT] at hes
        have hld11 : 1 ≤ ld1 := hes.ld1
        obtain ⟨Q, hQ⟩ : ∃ Q, U / D = Q := ⟨_, rfl⟩
        rw [hQ] at hes
        have hor : bits .or .u64 ((u2 : Int) * 4294967296) (u1 : Int) = (T : Int) := by rw [shl_or32 u2 u1 hb2 hb1, hT]
        have hTb : T < 18446744073709551616 := by omega
        have hi2 : (j : Int) + (n' : Int) = (a2 : Int) := by omega
        have hi1 : (a2 : Int) - 1 = (a1 : Int) := by omega
        have hi0 : (a2 : Int) - 2 = (a0 : Int) := by omega
        have haN : a2 < N ∧ a1 < N ∧ a0 < N := by omega
        have hw2 : IntKind.i64.wrap ((j : Int) + (n' : Int)) = (a2 : Int) := by rw [IntWalk.i64_in _ (by omega)]; omega
        have hw1 : IntKind.i64.wrap ((a2 : Int) - 1) = (a1 : Int) := by rw [IntWalk.i64_in _ (by omega)]; omega
        have HE := Lib.hid (And.intro hKn (And.intro hLo (And.intro hqo (And.intro hcho (And.intro hU (And.intro hQ (And.intro hes hT)))))))
        have HA2 := Lib.hid (And.intro hi2 hi0)
        clear hKn hLo hqo hcho hm hj1m hN hK hKN hnumd hnumv hdend hdenv hLl hldl hld1 hnx hrd ho bN bD hND hggd hwg hwN hwD hnw hU hes hu2e hu1e hu0e ha2 ha1 ha0 hT hQ hi2 hi1 hi0
        go_wp2_with fail
        go_quiet (fail)
        obtain ⟨wp, hwp⟩ : ∃ wp, wo.drewN nq = wp := ⟨_, rfl⟩
        have hnp : New wo wp := by rw [← hwp]; exact (Chg.refl _ _).drewN nq
        simp only [hwp]
        obtain ⟨dq, hdq⟩ : ∃ d, T / ld1 = d := ⟨_, rfl⟩
        obtain ⟨rq, hrq⟩ : ∃ d, T % ld1 = d := ⟨_, rfl⟩
        have hdv2 : (T : Int) / (ld1 : Int) = (dq : Int) := by rw [← hdq]; simp
        have hmd2 : (T : Int) % (ld1 : Int) = (rq : Int) := by rw [← hrq]; simp
        have hdv : (T : Int).tdiv (ld1 : Int) = (dq : Int) := by rw [Int.tdiv_eq_ediv_of_nonneg (by omega), hdv2]
        have hmd : (T : Int).tmod (ld1 : Int) = (rq : Int) := by rw [Int.tmod_eq_emod_of_nonneg (by omega), hmd2]
        have hdqb : dq < 18446744073709551616 := by rw [← hdq]; exact Nat.lt_of_le_of_lt (Nat.div_le_self _ _) hTb
        have hrqb : rq < 4294967296 := by rw [← hrq]; exact Nat.lt_trans (Nat.mod_lt _ (by omega)) hld1b
        have HQR := Lib.hid (And.intro hdq hrq)
        clear hdq hrq
        have hld0 : ((ld1 : Int) == 0) = false := by simp; omega
        have hld0' : ¬ (ld1 : Int) = 0 := by omega
        have HNP := Lib.hid hnp
        have HU0 := Lib.hid hu0
        clear hnp hwp hw2 hw1 hkNo hkno hkQo hu2 hu1 hu0 hor
        go_wp2_with fail
        go_quiet (fail)
        obtain ⟨wq, hwq⟩ : ∃ wq, wp.drewN nq = wq := ⟨_, rfl⟩
        have hnq : New wo wq := HNP.out.new (by rw [← hwq]; exact (Chg.refl _ _).drewN nq)
        simp only [hwq]
        have hset : ∀ dgt, dgt < 4294967296 → Q ≤ dgt → dgt ≤ Q + 1 → Calls Tryd.prog 89 #[.int .i64 j, .int .u64 dgt, .pointer (some ⟨gN, 0, none⟩), .pointer (some ⟨gn, 0, none⟩), .pointer (some ⟨gD, 0, none⟩), .pointer (some ⟨gQ, 0, none⟩)] wq fun e w' => (∃ v, e = .returned v) ∧ Hid (DvW W g gq X D N n' j w') := fun dgt h1 h2 h3 => by
          obtain ⟨hKn, hLo, hqo, hcho, hU, hQ, hes, hT⟩ := HE.out
          exact settle_any wq HX.out.1 hKn (own_chg hLo hnq (fun _ _ h => h)) (own_chg hqo hnq (fun _ _ h => h)) (hcho.new hnq) hjn hU hQ h1 h2 h3
        have hkNq := (HCW.out.bN.chg hnq (fun h => h)).cell 0 (u := .slice (some ⟨g, 0, none⟩) N N) rfl
        have hknq := (HCW.out.bn.chg hnq (fun h => h)).cell 0 (u := .int .i64 n') rfl
        have hu0q := hnq.cell HU0.out (fun h => h)
        have HSET := Lib.hid hset
        have HES := Lib.hid (EsI.start HE.out.2.2.2.2.2.2.1 (Nat.one_le_pow _ _ (by omega)))
        rw [HQR.out.1, HQR.out.2] at HES
        clear hwq hset hnq hdv2 hmd2 hdv hmd hld0 hld0'
        go_wp2_with fail
        go_loopg [18, 19] dq (fun d s18 s19 wi => ∃ r : Nat, s18 = .int .u64 (d : Int) ∧ s19 = .int .u64 (r : Int) ∧ r < 4294967296 ∧ d < 18446744073709551616 ∧ Hid (EsI 4294967296 T ld1 nx u0 Q d r) ∧ wi = wq)
        case atStart => exact ⟨rq, rfl, rfl, hrqb, hdqb, HES, rfl⟩
        case round =>
          obtain ⟨r, rfl, rfl, hrb, hdb, HI, rfl⟩ := hrel
          obtain ⟨M, hM⟩ : ∃ M, gk * nx = M := ⟨_, rfl⟩
          obtain ⟨R, hR⟩ : ∃ R, r * 4294967296 + u0 = R := ⟨_, rfl⟩
          have hRb : R < 18446744073709551616 := by omega
          have hor2 : bits .or .u64 ((r : Int) * 4294967296) (u0 : Int) = (R : Int) := by rw [shl_or32 r u0 hrb hb0, hR]
          have hw2 : (j : Int) + (n' : Int) = (a2 : Int) := HA2.out.1
          have hw0 : (a2 : Int) - 2 = (a0 : Int) := HA2.out.2
          by_cases hB : gk < 4294967296
          · have hsh : (gk : Int) / 4294967296 = 0 := by omega
            have hMb : M < 18446744073709551616 := by
              rw [← hM]
              exact Nat.lt_of_le_of_lt (Nat.mul_le_mul (show gk ≤ 4294967295 by omega) (show nx ≤ 4294967295 by omega)) (by decide)
            have hMi : (gk : Int) * (nx : Int) = (M : Int) := by rw [← hM]; simp
            by_cases hle : M ≤ R
            · have hfin := HI.out.exit HE.out.2.2.2.2.2.2.1 (.inl ⟨hB, by omega⟩)
              have hst := HSET.out gk hfin.1 hfin.2.1 hfin.2.2
              have HST := Lib.hid hst
              have hgt : decide ((R : Int) < (M : Int)) = false := by simp; omega
              have hgt' : decide (R < M) = false := by simp; omega
              clear hst hM hR hfin
              go_wp2_with fail
              refine HST.out.mono ?_
              rintro e w5 ⟨⟨ve, rfl⟩, H5⟩
              go_wp2_with fail
              go_roundg j
              case rel => exact ⟨rfl, by omega, H5⟩
              all_goals omega
            · obtain ⟨hd1, hIn⟩ := HI.out.down HE.out.2.2.2.2.2.2.1 (.inr (by omega))
              obtain ⟨d', hd'⟩ : ∃ d, gk - 1 = d := ⟨_, rfl⟩
              rw [hd'] at hIn
              obtain ⟨r2, hr2⟩ : ∃ d, r + ld1 = d := ⟨_, rfl⟩
              rw [hr2] at hIn
              have hdi : (gk : Int) - 1 = (d' : Int) := by omega
              have hri : (r : Int) + (ld1 : Int) = (r2 : Int) := by omega
              have hdlt : d' < gk := by omega
              have hr2b : r2 < 8589934592 := by omega
              have HIN := Lib.hid hIn
              have hgt : (R : Int) < (M : Int) := by omega
              have hgt' : R < M := by omega
              by_cases hover : r2 < 4294967296
              · have hs2 : (r2 : Int) / 4294967296 = 0 := by omega
                clear hIn hd' hr2 hM hR
                go_wp2_with fail
                go_roundg d'
                case rel => exact ⟨r2, rfl, rfl, hover, by omega, HIN, rfl⟩
                all_goals omega
              · have hs2 : (r2 : Int) / 4294967296 = 1 := by omega
                have hfin := hIn.exit HE.out.2.2.2.2.2.2.1 (.inr (by omega))
                have hst := HSET.out d' hfin.1 hfin.2.1 hfin.2.2
                have HST := Lib.hid hst
                clear hIn hd' hr2 hM hR hst hfin
                go_wp2_with fail
                refine HST.out.mono ?_
                rintro e w5 ⟨⟨ve, rfl⟩, H5⟩
                go_wp2_with fail
                go_roundg j
                case rel => exact ⟨rfl, by omega, H5⟩
                all_goals omega
          · obtain ⟨hd1, hIn⟩ := HI.out.down HE.out.2.2.2.2.2.2.1 (.inl (by omega))
            obtain ⟨d', hd'⟩ : ∃ d, gk - 1 = d := ⟨_, rfl⟩
            rw [hd'] at hIn
            obtain ⟨r2, hr2⟩ : ∃ d, r + ld1 = d := ⟨_, rfl⟩
            rw [hr2] at hIn
            have hdi : (gk : Int) - 1 = (d' : Int) := by omega
            have hri : (r : Int) + (ld1 : Int) = (r2 : Int) := by omega
            have hdlt : d' < gk := by omega
            have hr2b : r2 < 8589934592 := by omega
            have HIN := Lib.hid hIn
            obtain ⟨hq, hhq⟩ : ∃ d, gk / 4294967296 = d := ⟨_, rfl⟩
            have hsh : (gk : Int) / 4294967296 = (hq : Int) := by omega
            have hne : ((hq : Int) != 0) = true := by simp; omega
            have hq0 : ¬ hq = 0 := by omega
            clear hhq
            by_cases hover : r2 < 4294967296
            · have hs2 : (r2 : Int) / 4294967296 = 0 := by omega
              clear hIn hd' hr2 hM hR
              go_wp2_with fail
              go_roundg d'
              case rel => exact ⟨r2, rfl, rfl, hover, by omega, HIN, rfl⟩
              all_goals omega
            · have hs2 : (r2 : Int) / 4294967296 = 1 := by omega
              have hfin := hIn.exit HE.out.2.2.2.2.2.2.1 (.inr (by omega))
              have hst := HSET.out d' hfin.1 hfin.2.1 hfin.2.2
              have HST := Lib.hid hst
              clear hIn hd' hr2 hM hR hst hfin
              go_wp2_with fail
              refine HST.out.mono ?_
              rintro e w5 ⟨⟨ve, rfl⟩, H5⟩
              go_wp2_with fail
              go_roundg j
              case rel => exact ⟨rfl, by omega, H5⟩
              all_goals omega

end Go.Proofs.YtgofjkppeobjfaaDoor

namespace Go.Proofs.YtgofjkppeobjfaaDoor
set_option linter.unusedVariables false
open Go.RowKit Go.Mem Go.Dig Go.Pure

set_option maxRecDepth 100000 in
set_option maxHeartbeats 1000000 in
theorem divMag_lt (A : Option Addr) (n c : Nat) (A' : Option Addr) (n' c' : Nat) (x y : Nat) (w : World) (hx : WM w A n c x) (hy : WM w A' n' c' y) (hlt : x < y) :
    Calls Tryd.prog 64 #[.slice A n c, .slice A' n' c'] w fun e w' => ∃ Q nq cq R nr cr, e = .returned (.tuple #[.slice Q nq cq, .slice R nr cr]) ∧ Hid (WM w' Q nq cq (x / y) ∧ WM w' R nr cr (x % y) ∧ New w w') := by
  have hcm := cmpMag_any A n c A' n' c' x y w hx hy
  rw [cmpI_lt (by omega)] at hcm
  have HC := Lib.hid (And.intro hcm hx)
  clear hcm hx hy
  go_enter Tryd.func64, Tryd.ntmps64
  go_wp2_with fail
  go_step3
  go_wp2_with fail
  refine HC.out.1.mono ?_
  rintro e w1 ⟨rfl, q1, hq1⟩
  have HN : Hid (New w w1) := by rw [hq1]; exact (Chg.refl _ _).drewN q1
  clear hq1
  go_wp2_with fail
  (try rw [Exit.noGoto_ret])
  go_ret2
  exact ⟨_, _, _, _, _, _, rfl, by rw [Nat.div_eq_of_lt hlt]; exact WM.zero _, by rw [Nat.mod_eq_of_lt hlt]; exact HC.out.2.new HN.out, HN.out⟩

set_option maxRecDepth 100000 in
set_option maxHeartbeats 1000000 in
theorem divMag_one (A : Option Addr) (n c : Nat) (A' : Option Addr) (c' : Nat) (x y : Nat) (w : World) (hx : WM w A n c x) (hy : WM w A' 1 c' y) (hn : n ≤ 900000) (hle : y ≤ x) :
    Calls Tryd.prog 64 #[.slice A n c, .slice A' 1 c'] w fun e w' => ∃ Q nq cq R nr cr, e = .returned (.tuple #[.slice Q nq cq, .slice R nr cr]) ∧ Hid (WM w' Q nq cq (x / y) ∧ WM w' R nr cr (x % y) ∧ New w w') := by
  have hcm := cmpMag_any A n c A' 1 c' x y w hx hy
  obtain ⟨lb, hb, hd1, hd2, hNb⟩ := hy
  have hlb : lb.length = 1 := by have := hb.len; rwa [nv_length] at this
  obtain ⟨bd, u, rfl, hu, hcu⟩ := hb.at_ (show 0 < 1 by omega)
  obtain ⟨z, hz, rfl⟩ := nv_at hu
  have hzy : z = y := by
    obtain ⟨d, rfl⟩ := List.length_eq_one_iff.1 hlb
    have := hNb.val
    simp [val_cons, val_nil] at this hz
    omega
  subst hzy
  have hz1 : 1 ≤ z := by
    have := top_pos hNb hlb (by omega)
    rw [show 1 - 1 = 0 by rfl, dg_some hz] at this
    exact this
  have hzb : z < 4294967296 := hNb.digs.at_ hz
  have hcv : decide (cmpI (x : Int) (z : Int) < 0) = false := by
    unfold cmpI
    rw [if_neg (by omega)]
    split <;> decide
  generalize cmpI (x : Int) (z : Int) = cv at *
  have HC := Lib.hid (And.intro hcm hx)
  rw [show bd.add 0 = bd by simp [Addr.add]] at hcu
  clear hcm hx hb hNb hlb hu hz
  go_enter Tryd.func64, Tryd.ntmps64
  go_wp2_with fail
  go_step3
  go_wp2_with fail
  refine HC.out.1.mono ?_
  rintro e w1 ⟨rfl, q1, hq1⟩
  have hn1 : New w w1 := by rw [hq1]; exact (Chg.refl _ _).drewN q1
  have hcu1 := hn1.cell hcu (fun h => h)
  have HN := Lib.hid hn1
  clear hq1 hn1 hcu
  go_wp2_with fail
  refine (divWord_any A n c x z w1 (HC.out.2.new HN.out) (by omega) hz1 hzb).mono ?_
  rintro e w2 ⟨l, g, rfl, H2⟩
  clear hcu1
  obtain ⟨r, hr⟩ : ∃ r, x % z = r := ⟨_, rfl⟩
  rw [hr]
  have hrb : r < 4294967296 := by rw [← hr]; exact Nat.lt_trans (Nat.mod_lt _ (by omega)) hzb
  have HR := Lib.hid hr
  clear hr
  go_wp2_with fail
  refine (trim_wm _ _ _ l w2 H2.out.1 H2.out.2.1 (Nat.le_refl _) (by omega)).mono ?_
  rintro e w3 ⟨T1, rfl, HT1, rfl⟩
  go_wp2_with fail
  refine Calls.new1 ?_
  intro W3 b3 hn3 hz3
  have hr3 : Rd W3 (some ⟨w2.heap.size, 0, none⟩) 1 (nv .u32 [r]) := ⟨rfl, fun _ => ⟨_, rfl, fun j u hu => by
    match j, hu with
    | 0, hu =>
      simp [nv] at hu
      subst hu
      rw [Addr.add_lit]
      exact b3.cell 0 rfl⟩⟩
  refine (trim_wm _ _ _ [r] W3 hr3 (Digs.cons hrb (Digs.nil _)) (Nat.le_refl _) (by omega)).mono ?_
  rintro e w4 ⟨T2, rfl, HT2, rfl⟩
  have HF := Lib.hid hn3
  clear hr3 b3 hn3 hz3
  go_wp2_with fail
  (try rw [Exit.noGoto_ret])
  go_ret2
  refine ⟨_, _, _, _, _, _, rfl, ?_, ?_, ?_⟩
  · have := HT1.out.1.new HF.out
    rwa [H2.out.2.2.1] at this
  · have := HT2.out.1
    rw [show val 4294967296 [r] = r by simp [val_cons, val_nil]] at this
    rwa [← HR.out] at this
  · exact (HN.out.new H2.out.2.2.2.2).new HF.out

theorem divMag_any (A : Option Addr) (n c : Nat) (A' : Option Addr) (n' c' : Nat) (x y : Nat) (w : World) (hx : WM w A n c x) (hy : WM w A' n' c' y) (hn : n ≤ 900000) (hy1 : 1 ≤ y) :
    Calls Tryd.prog 64 #[.slice A n c, .slice A' n' c'] w fun e w' => ∃ Q nq cq R nr cr, e = .returned (.tuple #[.slice Q nq cq, .slice R nr cr]) ∧ Hid (WM w' Q nq cq (x / y) ∧ WM w' R nr cr (x % y) ∧ New w w') := by
  rcases Nat.lt_or_ge x y with h | h
  · exact divMag_lt A n c A' n' c' x y w hx hy h
  · rcases (show n' = 0 ∨ n' = 1 ∨ 2 ≤ n' by omega) with h0 | h0 | h0
    · have := (hy.pos).1 h0; omega
    · subst h0; exact divMag_one A n c A' c' x y w hx hy hn h
    · exact divMag_long A n c A' n' c' x y w hx hy hn h0 h
end Go.Proofs.YtgofjkppeobjfaaDoor

namespace Go.Proofs.YtgofjkppeobjfaaDoor
set_option linter.unusedVariables false
open Go.RowKit Go.Mem Go.Dig Go.Pure

theorem WI.store22 {W : World} {v : Value} {z : Int} {g g' : Nat} {t t' : TypeId} {a b c d : Value} (hm : WI W v z) (h : Blk W g t #[a, b]) (h' : Blk W g' t' #[c, d]) (hne : g ≠ g') (hi : NoInt [a, b]) (hi' : NoInt [c, d]) (p q r u : Value) : WI (set22 W g g' p q r u) v z := by
  have h1 : WI ((W.setCell ⟨g, 0, none⟩ p).setCell ⟨g, 1, none⟩ q) v z := hm.store h hi (Chg.at2 _ _ _ _)
  have h2 : Blk ((W.setCell ⟨g, 0, none⟩ p).setCell ⟨g, 1, none⟩ q) g' t' #[c, d] := (h'.far (p := ⟨g, 0, none⟩) (fun e => hne e.symm) _).far (p := ⟨g, 1, none⟩) (fun e => hne e.symm) _
  exact h1.store h2 hi' (Chg.at2 _ _ _ _)
theorem WM.len_mono {w w' : World} {A A' : Option Addr} {n c m n' c' m' : Nat} (h : WM w A n c m) (h' : WM w' A' n' c' m') (hm : m ≤ m') : n ≤ n' := by
  obtain ⟨l, h1, _, _, h2⟩ := h
  obtain ⟨l', h1', _, _, h2'⟩ := h'
  have e1 := h1.len
  have e2 := h1'.len
  rw [nv_length] at e1 e2
  rcases Nat.lt_or_ge n' n with hlt | hge
  · have := h2'.len_lt (by omega) h2 (by omega); omega
  · exact hge
theorem noInt2 (s : Bool) (A : Option Addr) (n c : Nat) : NoInt [Value.bool s, Value.slice A n c] := fun k z h => by simp at h

set_option maxRecDepth 100000 in
set_option maxHeartbeats 2000000 in
theorem wdiv_wm (s t : Bool) (A : Option Addr) (n c : Nat) (A' : Option Addr) (n' c' : Nat) (X Y : Nat) (w : World) (hx : WM w A n c X) (hy : WM w A' n' c' Y) (hn : n ≤ 900000) (hn' : n' ≤ 900000) (hY : 1 ≤ Y) :
    Calls Tryd.prog 29 #[.agg #[.bool s, .slice A n c], .agg #[.bool t, .slice A' n' c']] w fun e w' => ∃ s1 A1 n1 c1 s2 A2 n2 c2, e = .returned (.tuple #[.agg #[.bool s1, .slice A1 n1 c1], .agg #[.bool s2, .slice A2 n2 c2], .int .i64 0]) ∧ Hid (WI w' (.agg #[.bool s1, .slice A1 n1 c1]) (sg s X / sg t Y) ∧ WI w' (.agg #[.bool s2, .slice A2 n2 c2]) (sg s X % sg t Y) ∧ New w w') := by
  obtain ⟨ZQ, hZQ⟩ : ∃ Z, sg s X / sg t Y = Z := ⟨_, rfl⟩
  obtain ⟨ZR, hZR⟩ : ∃ Z, sg s X % sg t Y = Z := ⟨_, rfl⟩
  rw [hZQ, hZR]
  have hn0 : ¬ n' = 0 := fun h => by have := hy.pos.1 h; omega
  have hn0b : ((n' : Int) == 0) = false := by simp; omega
  have HZ := Lib.hid (And.intro hZQ hZR)
  have H0 := Lib.hid (And.intro hx hy)
  clear hx hy hZQ hZR
  go_enter Tryd.func29, Tryd.ntmps29
  go_wp2_with fail
  refine Calls.new4 ?_
  intro W hb1 hb2 hb3 hb4 hnW hzW
  refine (divMag_any A n c A' n' c' X Y W (H0.out.1.new hnW) (H0.out.2.new hnW) hn hY).mono ?_
  rintro e w1 ⟨Q, nq, cq, R, nr, cr, rfl, H1⟩
  obtain ⟨hwq, hwr, hn1⟩ := H1.out
  have hr0 := hwr.pos
  have hk1 := hb1.chg hn1 (fun h => h)
  have hk2 := hb2.chg hn1 (fun h => h)
  have hk3 := hb3.chg hn1 (fun h => h)
  have hk4 := hb4.chg hn1 (fun h => h)
  have ha0 := hk1.cell 0 (u := .bool s) rfl
  have hb0 := hk2.cell 0 (u := .bool t) rfl
  have hb1' := hk2.cell 1 (u := .slice A' n' c') rfl
  have HB := Lib.hid (And.intro hk1 (And.intro hk2 (And.intro hk3 (And.intro hk4 (hnW.new hn1)))))
  clear hb1 hb2 hb3 hb4 hnW hzW hn1 H1 hk1 hk2 hk3 hk4
  by_cases hcase : s = true ∧ X % Y ≠ 0
  · obtain ⟨hs, hrest⟩ := hcase
    subst hs
    have hnr : (0 : Int) < (nr : Int) := by
      rcases Nat.eq_zero_or_pos nr with h | h
      · exact absurd (hr0.1 h) hrest
      · omega
    have hnr' : 0 < nr := by omega
    have HWQ := Lib.hid (And.intro hwq hwr)
    have HRE := Lib.hid hrest
    clear hwq hwr hr0 hrest
    go_wp2_with fail
    refine Calls.new1 ?_
    intro W5 hb5 hn5 hz5
    have hone : WM W5 (some ⟨w1.heap.size, 0, none⟩) 1 1 1 := ⟨[1], ⟨rfl, fun _ => ⟨_, rfl, fun j u hu => by
      match j, hu with
      | 0, hu =>
        simp [nv] at hu
        subst hu
        rw [Addr.add_lit]
        exact hb5.cell 0 rfl⟩⟩, Nat.le_refl _, by omega, ⟨Digs.cons (by omega) (Digs.nil _), by simp [Trim], by simp [val_cons, val_nil]⟩⟩
    have hnq : nq ≤ 1000000 := Nat.le_trans (HWQ.out.1.len_mono H0.out.1 (Nat.div_le_self _ _)) (by omega)
    refine (addMag_any Q nq cq _ 1 1 (X / Y) 1 W5 (HWQ.out.1.new hn5) hone hnq (by omega)).mono ?_
    rintro e w2 ⟨Q2, nq2, cq2, rfl, H2⟩
    obtain ⟨hwq2, hn2⟩ := H2.out
    have hn12 := hn5.new hn2
    have hb1'' := hn12.cell hb1' (fun h => h)
    have ha0' := hn12.cell ha0 (fun h => h)
    have hb0' := hn12.cell hb0 (fun h => h)
    have HN2 := Lib.hid (And.intro hn12 hwq2)
    clear hb5 hn5 hz5 hone hnq H2 hwq2 hn2 hn12 ha0 hb0 hb1'
    go_wp2_with fail
    refine (subMag_any A' n' c' R nr cr Y (X % Y) w2 ((H0.out.2.new (HB.out.2.2.2.2)).new HN2.out.1) (HWQ.out.2.new HN2.out.1) (Nat.le_of_lt (Nat.mod_lt _ (by omega))) (by omega)).mono ?_
    rintro e w3 ⟨R2, nr2, cr2, rfl, H3⟩
    obtain ⟨hwr2, hn3⟩ := H3.out
    have ha3 := hn3.cell ha0' (fun h => h)
    have hb3 := hn3.cell hb0' (fun h => h)
    have HN3 := Lib.hid (And.intro (HN2.out.1.new hn3) (And.intro (HN2.out.2.new hn3) hwr2))
    clear H3 hwr2 hn3 ha0' hb0' hb1''
    go_wp2_with fail
    refine (made_h (!t) Q2 nq2 cq2 _ w3 HN3.out.2.1).mono ?_
    rintro e w4 ⟨s4, A4, n4, c4, rfl, HI4, HN4⟩
    clear ha3 hb3
    go_wp2_with fail
    refine (made_h false R2 nr2 cr2 _ w4 (HN3.out.2.2.new HN4.out)).mono ?_
    rintro e w5 ⟨s5, A5, n5, c5, rfl, HI5, HN5⟩
    have hn15 := (HN3.out.1.new HN4.out).new HN5.out
    have hk3 := HB.out.2.2.1.chg hn15 (fun h => h)
    have hk4 := HB.out.2.2.2.1.chg hn15 (fun h => h)
    have g30 := hk3.cell 0 rfl
    have g31 := hk3.cell 1 rfl
    have g40 := hk4.cell 0 rfl
    have g41 := hk4.cell 1 rfl
    have f30 := hk3.frozen 0
    have f31 := hk3.frozen 1
    have f40 := hk4.frozen 0
    have f41 := hk4.frozen 1
    have HK := Lib.hid (And.intro hk3 (And.intro hk4 hn15))
    clear hk3 hk4 hn15
    go_wp2
    obtain ⟨hk3, hk4, hn15⟩ := HK.out
    have hb22 := blk22 hk3 hk4 (by omega) (.bool s4) (.slice A4 n4 c4) (.bool s5) (.slice A5 n5 c5)
    obtain ⟨e1, e2⟩ := ediv_neg' t X Y hY HRE.out
    rw [e1] at HZ
    rw [e2] at HZ
    have i4 := HI4.out.new HN5.out
    have i5 := HI5.out
    rw [show sg (!t) (X / Y + 1) = sg (true != t) ((X / Y + 1 : Nat)) by cases t <;> rfl, HZ.out.1] at i4
    rw [show sg false (Y - X % Y) = ((Y - X % Y : Nat) : Int) by rfl, HZ.out.2] at i5
    refine bodyPost_ret (res_cct rfl _ rfl (aggInt.load hb22.1) rfl (aggInt.load hb22.2) rfl) rfl ⟨s4, A4, n4, c4, s5, A5, n5, c5, rfl, i4.store22 hk3 hk4 (by omega) (noInt2 _ _ _ _) (noInt2 _ _ _ _) _ _ _ _, i5.store22 hk3 hk4 (by omega) (noInt2 _ _ _ _) (noInt2 _ _ _ _) _ _ _ _, ?_⟩
    exact Chg.owned (HB.out.2.2.2.2.new hn15) (chg22 _ _ _ _ _ _ _) (fun k e => by omega)
  · have hor : s = false ∨ X % Y = 0 := by
      cases s
      · exact .inl rfl
      · right
        rcases Nat.eq_zero_or_pos (X % Y) with h | h
        · exact h
        · exact absurd ⟨rfl, by omega⟩ hcase
    obtain ⟨e1, e2⟩ := ediv_pos' s t X Y hY hor
    rw [e1, e2] at HZ
    have HWQ := Lib.hid (And.intro hwq hwr)
    have hsplit : s = false ∨ (s = true ∧ nr = 0) := by
      cases s
      · exact .inl rfl
      · exact .inr ⟨rfl, hr0.2 (hor.resolve_left (by simp))⟩
    clear hwq hwr hr0 hcase hor e1 e2 hb1'
    rcases hsplit with hs | ⟨hs, hnr⟩
    · subst hs
      go_wp2_with fail
      refine (made_h t Q nq cq _ w1 HWQ.out.1).mono ?_
      rintro e w4 ⟨s4, A4, n4, c4, rfl, HI4, HN4⟩
      clear ha0 hb0
      go_wp2_with fail
      refine (made_h false R nr cr _ w4 (HWQ.out.2.new HN4.out)).mono ?_
      rintro e w5 ⟨s5, A5, n5, c5, rfl, HI5, HN5⟩
      have hn15 := HN4.out.new HN5.out
      have hk3 := HB.out.2.2.1.chg hn15 (fun h => h)
      have hk4 := HB.out.2.2.2.1.chg hn15 (fun h => h)
      have g30 := hk3.cell 0 rfl
      have g31 := hk3.cell 1 rfl
      have g40 := hk4.cell 0 rfl
      have g41 := hk4.cell 1 rfl
      have f30 := hk3.frozen 0
      have f31 := hk3.frozen 1
      have f40 := hk4.frozen 0
      have f41 := hk4.frozen 1
      have HK := Lib.hid (And.intro hk3 (And.intro hk4 hn15))
      clear hk3 hk4 hn15
      go_wp2
      obtain ⟨hk3, hk4, hn15⟩ := HK.out
      have hb22 := blk22 hk3 hk4 (by omega) (.bool s4) (.slice A4 n4 c4) (.bool s5) (.slice A5 n5 c5)
      have i4 := HI4.out.new HN5.out
      have i5 := HI5.out
      rw [show sg t (X / Y) = sg (false != t) ((X / Y : Nat)) by cases t <;> rfl, HZ.out.1] at i4
      rw [show sg false (X % Y) = ((X % Y : Nat) : Int) by rfl, HZ.out.2] at i5
      refine bodyPost_ret (res_cct rfl _ rfl (aggInt.load hb22.1) rfl (aggInt.load hb22.2) rfl) rfl ⟨s4, A4, n4, c4, s5, A5, n5, c5, rfl, i4.store22 hk3 hk4 (by omega) (noInt2 _ _ _ _) (noInt2 _ _ _ _) _ _ _ _, i5.store22 hk3 hk4 (by omega) (noInt2 _ _ _ _) (noInt2 _ _ _ _) _ _ _ _, ?_⟩
      exact Chg.owned (HB.out.2.2.2.2.new hn15) (chg22 _ _ _ _ _ _ _) (fun k e => by omega)
    · subst hs
      subst hnr
      go_wp2_with fail
      refine (made_h (!t) Q nq cq _ w1 HWQ.out.1).mono ?_
      rintro e w4 ⟨s4, A4, n4, c4, rfl, HI4, HN4⟩
      clear ha0 hb0
      go_wp2_with fail
      refine (made_h false R 0 cr _ w4 (HWQ.out.2.new HN4.out)).mono ?_
      rintro e w5 ⟨s5, A5, n5, c5, rfl, HI5, HN5⟩
      have hn15 := HN4.out.new HN5.out
      have hk3 := HB.out.2.2.1.chg hn15 (fun h => h)
      have hk4 := HB.out.2.2.2.1.chg hn15 (fun h => h)
      have g30 := hk3.cell 0 rfl
      have g31 := hk3.cell 1 rfl
      have g40 := hk4.cell 0 rfl
      have g41 := hk4.cell 1 rfl
      have f30 := hk3.frozen 0
      have f31 := hk3.frozen 1
      have f40 := hk4.frozen 0
      have f41 := hk4.frozen 1
      have HK := Lib.hid (And.intro hk3 (And.intro hk4 hn15))
      clear hk3 hk4 hn15
      go_wp2
      obtain ⟨hk3, hk4, hn15⟩ := HK.out
      have hb22 := blk22 hk3 hk4 (by omega) (.bool s4) (.slice A4 n4 c4) (.bool s5) (.slice A5 n5 c5)
      have i4 := HI4.out.new HN5.out
      have i5 := HI5.out
      rw [show sg (!t) (X / Y) = sg (true != t) ((X / Y : Nat)) by cases t <;> rfl, HZ.out.1] at i4
      rw [show sg false (X % Y) = ((X % Y : Nat) : Int) by rfl, HZ.out.2] at i5
      refine bodyPost_ret (res_cct rfl _ rfl (aggInt.load hb22.1) rfl (aggInt.load hb22.2) rfl) rfl ⟨s4, A4, n4, c4, s5, A5, n5, c5, rfl, i4.store22 hk3 hk4 (by omega) (noInt2 _ _ _ _) (noInt2 _ _ _ _) _ _ _ _, i5.store22 hk3 hk4 (by omega) (noInt2 _ _ _ _) (noInt2 _ _ _ _) _ _ _ _, ?_⟩
      exact Chg.owned (HB.out.2.2.2.2.new hn15) (chg22 _ _ _ _ _ _ _) (fun k e => by omega)
end Go.Proofs.YtgofjkppeobjfaaDoor

namespace Go.Proofs.YtgofjkppeobjfaaDoor
set_option linter.unusedVariables false
open Go.RowKit Go.Mem Go.Dig Go.Pure

theorem wdiv_any (v v' : Value) (x y : Int) (w : World) (hx : WI w v x) (hy : WI w v' y) (bx : x.natAbs < 2 ^ 900000) (bY : y.natAbs < 2 ^ 900000) (hy0 : y ≠ 0) :
    Calls Tryd.prog 29 #[v, v'] w fun e w' => ∃ s1 A1 n1 c1 s2 A2 n2 c2, e = .returned (.tuple #[.agg #[.bool s1, .slice A1 n1 c1], .agg #[.bool s2, .slice A2 n2 c2], .int .i64 0]) ∧ Hid (WI w' (.agg #[.bool s1, .slice A1 n1 c1]) (x / y) ∧ WI w' (.agg #[.bool s2, .slice A2 n2 c2]) (x % y) ∧ New w w') := by
  obtain ⟨s, A, n, c, rfl, hs, hm⟩ := hx
  obtain ⟨t, A', n', c', rfl, ht, hm'⟩ := hy
  have h := wdiv_wm s t A n c A' n' c' x.natAbs y.natAbs w hm hm' (bz_wlen hm bx) (bz_wlen hm' bY) (by omega)
  rw [hs, ht, sg_of, sg_of] at h
  rw [hs, ht]
  exact h

set_option maxRecDepth 100000 in
set_option maxHeartbeats 1000000 in
theorem wdiv_zero (v v' : Value) (x : Int) (w : World) (hx : WI w v x) (hy : WI w v' 0) :
    Calls Tryd.prog 29 #[v, v'] w fun e w' => e = .returned (.tuple #[.agg #[.bool false, .slice none 0 0], .agg #[.bool false, .slice none 0 0], .int .i64 1]) ∧ New w w' := by
  obtain ⟨s, A, n, c, rfl, hs, hm⟩ := hx
  obtain ⟨t, A', n', c', rfl, ht, hm'⟩ := hy
  obtain rfl : n' = 0 := hm'.pos.2 rfl
  clear hs hm ht hm'
  go_enter Tryd.func29, Tryd.ntmps29
  go_wp2_with fail
  have hb4 : ∀ W : World, Blk W 0 0 #[] → True := fun _ _ => trivial
  clear hb4
  obtain ⟨W, hW⟩ : ∃ W, (((w.alloc (.cells #[.bool s, .slice A n c] 33)).alloc (.cells #[.bool t, .slice A' 0 c'] 33)).alloc (.cells #[.bool false, .slice none 0 0] 33)).alloc (.cells #[.bool false, .slice none 0 0] 33) = W := ⟨_, rfl⟩
  have hb3 : Blk W (w.heap.size + 1 + 1) 33 #[.bool false, .slice none 0 0] := by
    rw [← hW]
    have := Blk.new ((w.alloc (.cells #[.bool s, .slice A n c] 33)).alloc (.cells #[.bool t, .slice A' 0 c'] 33)) 33 #[.bool false, .slice none 0 0]
    rw [World.size_alloc, World.size_alloc] at this
    exact this.alloc _
  have hb4 : Blk W (w.heap.size + 1 + 1 + 1) 33 #[.bool false, .slice none 0 0] := by
    rw [← hW]
    have := Blk.new (((w.alloc (.cells #[.bool s, .slice A n c] 33)).alloc (.cells #[.bool t, .slice A' 0 c'] 33)).alloc (.cells #[.bool false, .slice none 0 0] 33)) 33 #[.bool false, .slice none 0 0]
    rw [World.size_alloc, World.size_alloc, World.size_alloc] at this
    exact this
  have hnW : New w W := by rw [← hW]; exact ((((Chg.refl _ w).alloc _).alloc _).alloc _).alloc _
  simp only [hW]
  exact bodyPost_ret (res_cct rfl _ rfl (aggInt.load hb3) rfl (aggInt.load hb4) rfl) rfl ⟨rfl, hnW⟩

theorem or0 (d : Nat) (h : d < 4294967296) : bits .or .u64 0 (d : Int) = (d : Int) := by
  have := shl_or32 0 d (by omega) h
  simpa using this
theorem orhi (a d : Nat) (ha : a < 4294967296) (h : d < 4294967296) : bits .or .u64 (a : Int) ((d : Int) * 4294967296) = ((a + d * 4294967296 : Nat) : Int) := by
  have e1 : ((d : Int) * 4294967296) = ((d * 4294967296 : Nat) : Int) := by simp
  have h1 := shl_or32 d a h ha
  rw [e1] at h1 ⊢
  rw [u64_or_nat _ _ (by omega) (by omega), Nat.or_comm, ← u64_or_nat _ _ (by omega) (by omega), h1]
  omega
/-- An int holds it. -/
def isInt (x : Int) : Bool := decide (-9223372036854775808 ≤ x ∧ x ≤ 9223372036854775807)
def intIf (x : Int) : Int := if isInt x then x else 0

set_option maxRecDepth 100000 in
set_option maxHeartbeats 1000000 in
theorem wsmall_any (v : Value) (x : Int) (w : World) (hx : WI w v x) :
    Calls Tryd.prog 21 #[v] w fun e w' => e = .returned (.tuple #[.int .i64 (intIf x), .bool (isInt x)]) ∧ New w w' := by
  obtain ⟨s, A, n, c, rfl, hs, l, hr, hnc, hc, hN⟩ := hx
  have hll : l.length = n := by have := hr.len; rwa [nv_length] at this
  obtain ⟨I, hI⟩ : ∃ I, intIf x = I := ⟨_, rfl⟩
  obtain ⟨b, hb⟩ : ∃ b, isInt x = b := ⟨_, rfl⟩
  rw [hI, hb]
  by_cases h2 : 2 < n
  · have hbig : 4294967296 ^ 2 ≤ x.natAbs := by
      have h3 := val_pos (B := 4294967296) (by omega) hN.trim (by intro e; subst e; simp at hll; omega)
      rw [hN.val, hll] at h3
      exact Nat.le_trans (Nat.pow_le_pow_right (by omega) (by omega)) h3
    have hb0 : b = false := by
      rw [← hb]; unfold isInt; simp; omega
    have hI0 : I = 0 := by rw [← hI]; unfold intIf; rw [hb, hb0]; rfl
    subst hb0 hI0
    clear hr hN hll hbig hI hb hs
    have hlt : (2 : Int) < (n : Int) := by omega
    go_enter Tryd.func21, Tryd.ntmps21
    go_wp2
    go_ret2
    exact ⟨rfl, (Chg.refl _ w).alloc _⟩
  · have hlt : decide ((2 : Int) < (n : Int)) = false := by simp; omega
    have hlt' : decide (2 < n) = false := by simp; omega
    have hn2 : n ≤ 2 := by omega
    obtain ⟨M, hM⟩ : ∃ M, val 4294967296 l = M := ⟨_, rfl⟩
    have hMx : x.natAbs = M := by rw [← hN.val, hM]
    have H0 := Lib.hid (And.intro hr (And.intro hN.digs (And.intro hll hM)))
    have HX := Lib.hid (And.intro hs (And.intro hMx (And.intro hI hb)))
    clear hr hN hll hM hMx hI hb hs h2
    go_enter Tryd.func21, Tryd.ntmps21
    go_wp2_with fail
    refine Code.new1 ?_
    intro W hb1 hnW hzW
    have hc0 := hb1.cell 0 (u := .bool s) rfl
    have HW := Lib.hid hnW
    clear hb1 hnW hzW
    go_loop [14, 4, 5, 6] (fun i m _ _ => ∃ k a : Nat, i = .int .i64 k ∧ m = .int .u64 a ∧ k ≤ n ∧ Hid (a = val 4294967296 (l.take k))) (fun i _ _ _ => n - (intOf i).toNat)
    case atStart => exact ⟨0, 0, rfl, rfl, by omega, rfl⟩
    case round =>
      obtain ⟨k, a, rfl, rfl, hk, HA⟩ := hrel
      by_cases hkn : k < n
      · obtain ⟨hr, hd, hll, hM⟩ := H0.out
        obtain ⟨ad, u, rfl, hu, hcu⟩ := (hr.new HW.out).at_ hkn
        obtain ⟨z, hz, rfl⟩ := nv_at hu
        have hzb := hd.at_ hz
        have hst := val_take (B := 4294967296) hz
        rcases (show k = 0 ∨ k = 1 by omega) with h | h
        · subst h
          have ha0 : a = 0 := by rw [HA.out]; simp
          subst ha0
          have hor := or0 z hzb
          have hst1 : val 4294967296 (l.take 1) = z := by simpa using hst
          have HS := Lib.hid hst1
          rw [show ad.add 0 = ad by simp [Addr.add]] at hcu
          clear hr hd hll hM hu hz hst hst1 HA
          go_wp2
          go_round
          case rel => exact ⟨1, z, rfl, rfl, by omega, HS.out.symm⟩
          case measure => simp [intOf]; omega
        · subst h
          have hab : a < 4294967296 := by
            rw [HA.out]
            have := val_lt (hd.take 1)
            rw [List.length_take, Nat.min_eq_left (by omega)] at this
            simpa using this
          obtain ⟨a2, ha2⟩ : ∃ a2, a + z * 4294967296 = a2 := ⟨_, rfl⟩
          have hor := orhi a z hab hzb
          rw [ha2] at hor
          rw [← HA.out, Nat.pow_one, Nat.mul_comm 4294967296 z, ha2] at hst
          have HS := Lib.hid hst
          have ha2b : a2 < 18446744073709551616 := by omega
          simp [Addr.add] at hcu
          clear hr hd hll hM hu hz hst HA ha2
          go_wp2
          go_round
          case rel => exact ⟨2, a2, rfl, rfl, by omega, HS.out.symm⟩
          case measure => simp [intOf]; omega
      · obtain rfl : n = k := by omega
        have haM : a = M := by
          obtain ⟨hr, hd, hll, hM⟩ := H0.out
          rw [HA.out, List.take_of_length_le (by omega), hM]
        subst haM
        have hMb : a < 18446744073709551616 := by
          obtain ⟨hr, hd, hll, hM⟩ := H0.out
          have := val_lt hd
          rw [hM, hll] at this
          have h3 : 4294967296 ^ n ≤ 4294967296 ^ 2 := Nat.pow_le_pow_right (by omega) hn2
          omega
        obtain ⟨hs, hMx, hI, hb⟩ := HX.out
        clear HA hkn
        cases s
        · have hx0 : ¬ x < 0 := by simpa using hs.symm
          by_cases hf : a < 9223372036854775808
          · have hb1 : b = true := by rw [← hb]; unfold isInt; simp; omega
            have hI1 : I = (a : Int) := by rw [← hI]; unfold intIf; rw [hb, hb1]; simp; omega
            subst hb1 hI1
            have hf1 : (a : Int) < 9223372036854775808 := by omega
            clear hs hMx hI hb hx0
            go_wp2
            go_ret2
            exact ⟨rfl, HW.out⟩
          · have hb1 : b = false := by rw [← hb]; unfold isInt; simp; omega
            have hI1 : I = 0 := by rw [← hI]; unfold intIf; rw [hb, hb1]; rfl
            subst hb1 hI1
            have hf1 : decide ((a : Int) < 9223372036854775808) = false := by simp; omega
            clear hs hMx hI hb hx0
            go_wp2
            go_ret2
            exact ⟨rfl, HW.out⟩
        · have hx0 : x < 0 := by simpa using hs.symm
          by_cases hf : a ≤ 9223372036854775808
          · have hb1 : b = true := by rw [← hb]; unfold isInt; simp; omega
            have hI1 : I = -(a : Int) := by rw [← hI]; unfold intIf; rw [hb, hb1]; simp; omega
            subst hb1 hI1
            have hf1 : (a : Int) ≤ 9223372036854775808 := by omega
            have hw1 : IntKind.i64.wrap (IntKind.u64.wrap (-(a : Int))) = -(a : Int) := by rw [IntKind.wrap_u64, IntKind.wrap_i64]; omega
            clear hs hMx hI hb hx0
            go_wp2
            go_ret2
            exact ⟨rfl, HW.out⟩
          · have hb1 : b = false := by rw [← hb]; unfold isInt; simp; omega
            have hI1 : I = 0 := by rw [← hI]; unfold intIf; rw [hb, hb1]; rfl
            subst hb1 hI1
            have hf1 : decide ((a : Int) ≤ 9223372036854775808) = false := by simp; omega
            clear hs hMx hI hb hx0
            go_wp2
            go_ret2
            exact ⟨rfl, HW.out⟩
end Go.Proofs.YtgofjkppeobjfaaDoor

namespace Go.Proofs.YtgofjkppeobjfaaDoor
set_option linter.unusedVariables false
open Go.RowKit Go.Shelf Go.Mem Go.Dig Go.Pure
attribute [local go_sem] Oper.semAt_some

theorem WM.kept {W W' : World} {row : Option Nat} {A : Option Addr} {n c m : Nat} (h : WM W A n c m) (hg : W.grownBy W' row) (hr : ∀ r, row = some r → ∃ o : Obj, W.heap[r]? = some o ∧ o.isCells = false) : WM W' A n c m := by
  obtain ⟨l, h1, h2⟩ := h
  exact ⟨l, rd_kept h1 hg hr, h2⟩
theorem WI.kept {W W' : World} {row : Option Nat} {v : Value} {z : Int} (h : WI W v z) (hg : W.grownBy W' row) (hr : ∀ r, row = some r → ∃ o : Obj, W.heap[r]? = some o ∧ o.isCells = false) : WI W' v z := by
  obtain ⟨s, A, n, c, h1, h2, h3⟩ := h
  exact ⟨s, A, n, c, h1, h2, h3.kept hg hr⟩
/-- The blocks of S change, and new ones are made. -/
def Rest (S : List Nat) (N : Nat) (b : Nat) : Prop := b < N ∧ b ∉ S
theorem WI.rest {w1 W : World} {S : List Nat} {v : Value} {z : Int} (h : WI w1 v z) (hk : Keep (Rest S w1.heap.size) w1 W) (hS : ∀ g ∈ S, ∃ t cs, Blk w1 g t cs ∧ ∀ d : Int, Value.int .u32 d ∉ cs.toList) : WI W v z := by
  obtain ⟨s, A, n, c, rfl, hs, l, hr, h3⟩ := h
  refine ⟨s, A, n, c, rfl, hs, l, ?_, h3⟩
  rcases Nat.eq_zero_or_pos n with h0 | h0
  · subst h0; exact ⟨hr.1, fun h => absurd h (by omega)⟩
  · refine hk.rd hr (fun b hb => ?_)
    obtain ⟨ad, u, rfl, hu, hc⟩ := hr.at_ h0
    have hb' : ad.block = b := by simpa [blk] using hb
    have hlt := World.block_lt_of_cell? w1 _ hc
    rw [block_add] at hlt
    refine ⟨by omega, fun hm => ?_⟩
    obtain ⟨t, cs, hB, hn⟩ := hS b hm
    refine hr.apart hB (fun u hu => ?_) h0 hb
    unfold nv at hu
    obtain ⟨d, _, rfl⟩ := List.mem_map.1 hu
    exact hn _
theorem WI.far {w w' : World} {v : Value} {z : Int} {g : Nat} {t : TypeId} {cs : Array Value} (h : WI w v z) (hb : Blk w g t cs) (hne : ∀ d : Int, Value.int .u32 d ∉ cs.toList) (hc : Chg (fun b => b = g) w w') : WI w' v z := by
  obtain ⟨s, A, n, c, rfl, hs, l, hr, h3⟩ := h
  refine ⟨s, A, n, c, rfl, hs, l, hr.store hb (fun u hu => ?_) hc, h3⟩
  unfold nv at hu
  obtain ⟨d, _, rfl⟩ := List.mem_map.1 hu
  exact hne _
theorem KeepsOthers.of_chg1 {V V' : World} {g : Nat} {t : TypeId} {cs : Array Value} (hb : Blk V g t cs) (h : Chg (fun b => b = g) V V') : KeepsOthers V V' :=
  ⟨h.size, fun k o hk ho => h.heap hk (fun e => by
    subst e
    unfold Blk at hb
    rw [hb] at hk
    cases hk
    simp [Obj.isCells] at ho)⟩
theorem New.keepsO {W W' : World} (h : New W W') : KeepsOthers W W' := ⟨h.size, fun k o hk _ => h.heap hk (fun h => h)⟩
theorem own_cut0 {w : World} {base : Nat} {e : TypeId} {A : Option Addr} {n c : Nat} {xs : List Value} (h : w.ownsRow base e 1 (.slice A n c) n xs) : w.ownsRow base e 1 (.slice A 0 c) 0 [] := by
  refine ⟨rfl, ?_⟩
  rcases h.2 with ⟨hv, _⟩ | ⟨g, cap, cur, hv, h1, h2, h3, h4, h5, h6⟩
  · injection hv with a b c; subst a c; exact .inl ⟨rfl, rfl⟩
  · injection hv with a b c; subst a c
    exact .inr ⟨g, _, cur, rfl, h1, h2, Nat.zero_le _, h4, h5, by simp⟩
theorem wordsL_succ (seed : Int) (lab : List UInt8) (a : Int) (j d : Nat) (h : wordI seed lab (a + (j : Nat)) = (d : Int)) : wordsL seed lab a (j + 1) = wordsL seed lab a j ++ [d] := by
  unfold wordsL
  rw [List.range_succ, List.map_append]
  simp only [List.map_cons, List.map_nil]
  rw [h, Int.toNat_natCast]
theorem sub_mod_i {M N : Nat} : ((M : Int) - (M : Int) % (N : Int)) = ((M - M % N : Nat) : Int) := by
  rw [← Int.natCast_emod, Int.ofNat_sub (Nat.mod_le _ _)]

/-- What holds ahead of each word. -/
def BigI (seed : Int) (s : ByteArray) (i : Int) (k bd : Nat) (w w1 : World) (g8 g9 g10 g19 g20 : Nat) (pre : List Nat) (W : World) : Prop :=
  ∃ t j A c, pre.length = t * k + j ∧ j < k ∧ t < 64 ∧ (∀ u, u < t → ¬ tryN seed s.data.toList i k u < bd) ∧ Keep (Rest [g8, g9, g10, g19, g20] w1.heap.size) w1 W ∧
    Blk W g8 33 #[.bool false, .slice none 0 0] ∧ Blk W g9 3 #[.int .i64 0] ∧ Blk W g10 34 #[.int .i64 0] ∧ Blk W g19 3 #[.int .i64 (t : Int)] ∧ Blk W g20 102 #[.slice A j c] ∧
    W.ownsRow w1.heap.size 65 1 (.slice A j c) j (nv .u64 (wordsL seed s.data.toList (i + (t * k : Nat)) j)) ∧ Below w.heap.size w W ∧ w1.heap.size ≤ W.heap.size
/-- What holds where the number has been taken. -/
def BigX (seed : Int) (s : ByteArray) (i : Int) (k bd N : Nat) (w : World) (g8 g9 g10 : Nat) (c : Code) (_pre : List Nat) (W : World) : Prop :=
  c = .ret ∧ ∃ t sr Ar nr cr, Taken (tryN seed s.data.toList i k) bd t ∧ Blk W g8 33 #[.bool sr, .slice Ar nr cr] ∧ WI W (.agg #[.bool sr, .slice Ar nr cr]) ((tryN seed s.data.toList i k t % N : Nat) : Int) ∧
    Blk W g9 3 #[.int .i64 (i + (t * k : Nat) + (k : Int))] ∧ Blk W g10 34 #[.int .i64 0] ∧ Below w.heap.size w W

set_option maxRecDepth 100000 in
set_option maxHeartbeats 4000000 in
theorem big_ok (seed : Int) (s : ByteArray) (hs : s.size ≤ 1000000) (i : Int) (hi : 0 ≤ i ∧ i ≤ 100000000) (v : Value) (N k : Nat) (hk1 : 1 ≤ k) (hk : k ≤ 255) (hN1 : 1 ≤ N) (hN : N ≤ p64 k) (hl : ∀ j, j < k → p64 j < N) (w : World) (hv : WI w v (N : Int)) :
    Calls Tryd.prog 41 #[.int .u64 seed, .string s, .int .i64 i, v] w fun e w' => ∃ sr Ar nr cr t, e = .returned (.tuple #[.agg #[.bool sr, .slice Ar nr cr], .int .i64 (i + (t * k : Nat) + (k : Int)), .int .i64 0]) ∧
      Hid (Taken (tryN seed s.data.toList i k) (p64 k - p64 k % N) t ∧ WI w' (.agg #[.bool sr, .slice Ar nr cr]) ((tryN seed s.data.toList i k t % N : Nat) : Int) ∧ New w w') := by
  obtain ⟨s0, A0, n0, c0, rfl, hs0, hm0⟩ := hv
  have hv0 : WI w (.agg #[.bool s0, .slice A0 n0 c0]) (N : Int) := ⟨s0, A0, n0, c0, rfl, hs0, hm0⟩
  have HV := Lib.hid (And.intro hv0 (And.intro hN hl))
  obtain ⟨bd, hbd⟩ : ∃ bd, p64 k - p64 k % N = bd := ⟨_, rfl⟩
  rw [hbd]
  have HBD := Lib.hid hbd
  clear hs0 hm0 hv0 hN hl hbd
  refine (callsIn_wide (n := 10)).1 ?_
  refine callsIn_of_wp_marks Tryd.func41 rfl trivial ?_ rfl
  simp only [Tryd.ntmps41, List.size_toArray, List.length_cons, List.length_nil, Nat.reduceAdd, Nat.reduceSub, Array.replicate_succ, Array.replicate_zero, List.push_toArray, List.append_toArray, List.nil_append, List.cons_append]
  gi_wp2
  refine ⟨trivial, callsIn_wide.2 (Calls.new4 ?_)⟩
  intro W hb7 hb8 hb9 hb10 hn hz
  obtain ⟨g7, hg7⟩ : ∃ x, w.heap.size = x := ⟨_, rfl⟩
  obtain ⟨g8, hg8⟩ : ∃ x, w.heap.size + 1 = x := ⟨_, rfl⟩
  obtain ⟨g9, hg9⟩ : ∃ x, w.heap.size + 1 + 1 = x := ⟨_, rfl⟩
  obtain ⟨g10, hg10⟩ : ∃ x, w.heap.size + 1 + 1 + 1 = x := ⟨_, rfl⟩
  rw [hg7] at hb7
  rw [hg8] at hb8
  rw [hg9] at hb9
  rw [hg10] at hb10
  simp only [hg10]
  simp only [hg9]
  simp only [hg8]
  simp only [hg7]
  have hgs : w.heap.size ≤ g7 ∧ g7 < g8 ∧ g8 < g9 ∧ g9 < g10 ∧ g10 < W.heap.size := by omega
  have H1 := Lib.hid (And.intro hb7 (And.intro hb8 (And.intro hb9 (And.intro hb10 (And.intro (HV.out.1.new hn) (And.intro hn hgs))))))
  clear hb7 hb8 hb9 hb10 hn hz hg7 hg8 hg9 hg10 hgs
  refine (sign_any _ (N : Int) W H1.out.2.2.2.2.1).mono ?_
  rintro e w1 ⟨rfl, hn1⟩
  have hsg : cmpI (N : Int) 0 = 1 := cmpI_gt (by omega)
  rw [hsg]
  have hc0 := (H1.out.1.chg hn1 (fun h => h)).cell 0 (u := .bool s0) rfl
  have hc1 := (H1.out.1.chg hn1 (fun h => h)).cell 1 (u := .slice A0 n0 c0) rfl
  have HN1 := Lib.hid hn1
  clear hn1 hsg
  gi_wp2
  refine ⟨trivial, callsIn_wide.2 ?_⟩
  refine (parts_ok _ N k hk HV.out.2.1 HV.out.2.2 w1 (H1.out.2.2.2.2.1.new HN1.out)).mono ?_
  rintro e w2 ⟨s2, A2, n2, c2, rfl, H2⟩
  have hk0 : ((k : Int) == 0) = false := by simp; omega
  clear hc0 hc1
  have hn02 : New W ((w2.alloc (.cells #[.int .i64 (k : Int)] 3)).alloc (.cells #[.bool s2, .slice A2 n2 c2] 33)) := ((HN1.out.new H2.out.2).alloc _).alloc _
  have hc0 := (H1.out.1.chg hn02 (fun h => h)).cell 0 (u := .bool s0) rfl
  have hc1 := (H1.out.1.chg hn02 (fun h => h)).cell 1 (u := .slice A0 n0 c0) rfl
  clear hn02
  gi_wp2
  refine ⟨trivial, callsIn_wide.2 (Calls.new2 ?_)⟩
  clear hc0 hc1
  intro W3 hb11 hb12 hn3 hz3
  obtain ⟨g11, hg11⟩ : ∃ x, w2.heap.size = x := ⟨_, rfl⟩
  obtain ⟨g12, hg12⟩ : ∃ x, w2.heap.size + 1 = x := ⟨_, rfl⟩
  rw [hg11] at hb11
  rw [hg12] at hb12
  simp only [hg12]
  simp only [hg11]
  have hnW3 : New W W3 := HN1.out.new (H2.out.2.new hn3)
  have hgs3 : W.heap.size ≤ g11 ∧ g11 < g12 ∧ g12 < W3.heap.size := by have := HN1.out.size; have := H2.out.2.size; omega
  have H3 := Lib.hid (And.intro hb11 (And.intro hb12 (And.intro hnW3 (And.intro hgs3 (H2.out.1.new hn3)))))
  clear hb11 hb12 hn3 hz3 hg11 hg12 hnW3 hgs3 H2 HN1
  refine (wdiv_any _ _ ((p64 k : Nat) : Int) (N : Int) W3 H3.out.2.2.2.2 (H1.out.2.2.2.2.1.new H3.out.2.2.1) (top_big (p64_top hk) 900000 (by decide)) (top_big (Nat.lt_of_le_of_lt HV.out.2.1 (p64_top hk)) 900000 (by decide)) (by omega)).mono ?_
  rintro e w4 ⟨s4, A4, n4, c4, s5, A5, n5, c5, rfl, H4⟩
  have hn04 : New W3 ((w4.alloc (.cells #[.bool s4, .slice A4 n4 c4] 33)).alloc (.cells #[.bool s5, .slice A5 n5 c5] 33)) := (H4.out.2.2.alloc _).alloc _
  have hc0 := (H3.out.2.1.chg hn04 (fun h => h)).cell 0 (u := .bool s2) rfl
  have hc1 := (H3.out.2.1.chg hn04 (fun h => h)).cell 1 (u := .slice A2 n2 c2) rfl
  clear hn04
  gi_wp2
  refine ⟨trivial, callsIn_wide.2 (Calls.new2 ?_)⟩
  clear hc0 hc1
  intro W5 hb14 hb15 hn5 hz5
  obtain ⟨g14, hg14⟩ : ∃ x, w4.heap.size = x := ⟨_, rfl⟩
  obtain ⟨g15, hg15⟩ : ∃ x, w4.heap.size + 1 = x := ⟨_, rfl⟩
  simp only [hg15]
  simp only [hg14]
  have hnW5 : New W3 W5 := H4.out.2.2.new hn5
  have H5 := Lib.hid (And.intro hnW5 (And.intro (H4.out.2.1.new hn5) (H3.out.2.2.2.2.new hnW5)))
  clear hb14 hb15 hn5 hz5 hg14 hg15 hnW5 H4
  have hsub := wsub_any _ _ _ _ W5 H5.out.2.2 H5.out.2.1 (top_big (p64_top hk) 1000000 (by decide)) (by rw [← Int.natCast_emod]; exact top_big (Nat.lt_of_le_of_lt (Nat.mod_le _ _) (p64_top hk)) 1000000 (by decide))
  rw [sub_mod_i, HBD.out] at hsub
  have hbt : bd < topN := Nat.lt_of_le_of_lt (by rw [← HBD.out]; exact Nat.sub_le _ _) (p64_top hk)
  have hrg := rg_in (z := (bd : Int)) (by rw [Int.natAbs_natCast]; exact hbt)
  rw [hrg.1, hrg.2] at hsub
  have HSUB := Lib.hid hsub
  clear hsub hbt hrg
  refine HSUB.out.mono ?_
  rintro e w6 ⟨s6, A6, n6, c6, rfl, H6⟩
  clear HSUB
  gi_wp2
  refine ⟨trivial, callsIn_wide.2 (Calls.new3 ?_)⟩
  intro W7 hb17 hb19 hb20 hn7 hz7
  obtain ⟨g17, hg17⟩ : ∃ x, w6.heap.size = x := ⟨_, rfl⟩
  obtain ⟨g19, hg19⟩ : ∃ x, w6.heap.size + 1 = x := ⟨_, rfl⟩
  obtain ⟨g20, hg20⟩ : ∃ x, w6.heap.size + 1 + 1 = x := ⟨_, rfl⟩
  rw [hg17] at hb17
  rw [hg19] at hb19
  rw [hg20] at hb20
  simp only [hg20]
  simp only [hg19]
  simp only [hg17]
  refine (stream_any seed s i W7).mono ?_
  rintro e w8 ⟨rfl, hs1, hs2, hs3, hn8, hz8⟩
  obtain ⟨B, hB⟩ : ∃ B, W7.heap.size = B := ⟨_, rfl⟩
  rw [hB] at hs1 hs2 hs3 hz8 ⊢
  have hn38 : New W3 w8 := H5.out.1.new (H6.out.2.new (hn7.new hn8))
  have hn08 : New W w8 := H3.out.2.2.1.new hn38
  have hgs8 : g12 < g17 ∧ g17 < g19 ∧ g19 < g20 ∧ g20 < B ∧ B + 3 = w8.heap.size := by
    have := H5.out.1.size; have := H6.out.2.size; have := H3.out.2.2.2.1; omega
  have H8 := Lib.hid (And.intro (H1.out.1.chg hn08 (fun h => h)) (And.intro (H1.out.2.1.chg hn08 (fun h => h)) (And.intro (H1.out.2.2.1.chg hn08 (fun h => h)) (And.intro (H1.out.2.2.2.1.chg hn08 (fun h => h)) (And.intro (H3.out.1.chg hn38 (fun h => h)) (And.intro (hb17.chg hn8 (fun h => h)) (And.intro (hb19.chg hn8 (fun h => h)) (hb20.chg hn8 (fun h => h)))))))))
  have HM := Lib.hid (And.intro (H1.out.2.2.2.2.1.new hn08) (H6.out.1.new (hn7.new hn8)))
  have HG := Lib.hid (And.intro H1.out.2.2.2.2.2.2 (And.intro H3.out.2.2.2.1 hgs8))
  have HNW := Lib.hid (H1.out.2.2.2.2.2.1.new hn08)
  have HSQ := Lib.hid (And.intro hs1 (And.intro hs2 hs3))
  clear hb17 hb19 hb20 hn7 hz7 hg17 hg19 hg20 hs1 hs2 hs3 hn8 hz8 hB hn38 hn08 hgs8 H1 H3 H5 H6
  gi_wp2
  have hSS : ∀ g ∈ [g8, g9, g10, g19, g20], ∃ t cs, Blk w8 g t cs ∧ ∀ d : Int, Value.int .u32 d ∉ cs.toList := by
    obtain ⟨h7, h8, h9, h10, h11, h17, h19, h20⟩ := H8.out
    intro g hg
    simp only [List.mem_cons, List.not_mem_nil, or_false] at hg
    rcases hg with rfl | rfl | rfl | rfl | rfl
    · exact ⟨_, _, h8, fun d h => by simp at h⟩
    · exact ⟨_, _, h9, fun d h => by simp at h⟩
    · exact ⟨_, _, h10, fun d h => by simp at h⟩
    · exact ⟨_, _, h19, fun d h => by simp at h⟩
    · exact ⟨_, _, h20, fun d h => by simp at h⟩
  have HSS := Lib.hid hSS
  have hI := Lib.hid hi
  clear hSS
  refine wpIn_rangeB rfl (by omega) (gf := 95) rfl trivial (enters_of Tryd.func95 (by kernel_rfl) rfl)
    (stream_seq 9 (by omega) _ seed s hs i ⟨hI.out.1, by have := hI.out.2; omega⟩ 20000 (by omega) w8 HSQ.out.1 HSQ.out.2.1 HSQ.out.2.2) (fun h h' => Keep.trans h h') ?kb (fun _ => rfl) (fun _ _ => Stab.const _ _) (fun _ => Stab.const _ _) (fun _ => Stab.const _ _)
    (BigI seed s i k bd w w8 g8 g9 g10 g19 g20)
    ?hIB
    (BigX seed s i k bd N w g8 g9 g10) ?hI ?hIx
    ?h0 ?a1 ?assign ?body ?done ?stop
  case assign =>
    intro l x W K hK
    unfold strE
    gi_wp2
    exact hK
  case hIB =>
    rintro pre W ⟨t, j, A, c, h1, h2, h3, _⟩
    have : t * k ≤ 63 * 255 := Nat.mul_le_mul (by omega) hk
    show pre.length < 20000
    omega
  case h0 =>
    obtain ⟨h7, h8, h9, h10, h11, h17, h19, h20⟩ := H8.out
    exact ⟨0, 0, none, 0, by simp, by omega, by omega, fun u hu => by omega, Keep.refl _ _, h8, h9, h10, h19, h20, World.ownsRow_nil w8 w8.heap.size _ _, New.below HNW.out, Nat.le_refl _⟩
  case kb =>
    intro W l o o' hl ho hoc b hb
    refine World.putObj_heap_other ?_
    have := HG.out
    rcases hb with rfl | rfl | rfl <;> omega
  case hI =>
    rintro pre W W' row ⟨t, j, A, c, q1, q2, q3, q4, q5, q6, q7, q8, q9, q10, q11, q12, q13⟩ hg hr
    refine ⟨t, j, A, c, q1, q2, q3, q4, ?_, blk_kept q6 hg (fun r e => (hr r e).2), blk_kept q7 hg (fun r e => (hr r e).2), blk_kept q8 hg (fun r e => (hr r e).2), blk_kept q9 hg (fun r e => (hr r e).2), blk_kept q10 hg (fun r e => (hr r e).2), row_kept q11 hg (fun r e => (hr r e).2), q12.grown hg q12.size (fun b e => by have := (hr b e).1; have := HNW.out.size; omega), Nat.le_trans q13 hg.size⟩
    intro b hb
    exact (hg.block b (Nat.lt_of_lt_of_le hb.1 q13) (fun e => by have := (hr b e.symm).1; have := hb.1; omega)).trans (q5 b hb)
  case hIx =>
    rintro c pre W W' row ⟨q1, t, sr, Ar, nr, cr, q2, q3, q4, q5, q6, q7⟩ hg hr
    exact ⟨q1, t, sr, Ar, nr, cr, q2, blk_kept q3 hg (fun r e => (hr r e).2), q4.kept hg (fun r e => (hr r e).2), blk_kept q5 hg (fun r e => (hr r e).2), blk_kept q6 hg (fun r e => (hr r e).2), q7.grown hg q7.size (fun b e => by have := (hr b e).1; have := HNW.out.size; omega)⟩
  case done =>
    rintro D xs W hD hF
    exact hF.elim
  case stop =>
    rintro D c pre W hD _ ⟨rfl, t, sr, Ar, nr, cr, ht, hb8, hwi, hb9, hb10, hB2⟩ hK
    have hd0 := hb8.cell 0 rfl
    have hd1 := hb8.cell 1 rfl
    have hd2 := hb9.cell 0 rfl
    have hd3 := hb10.cell 0 rfl
    have HX := Lib.hid (And.intro ht (And.intro hb8 (And.intro hwi (And.intro hb9 (And.intro hb10 (And.intro hB2 hK))))))
    clear ht hb8 hwi hb9 hb10 hB2 hK
    gi_wp2
    obtain ⟨ht, hb8, hwi, hb9, hb10, hB2, hK⟩ := HX.out
    refine ⟨by simp, .inl ⟨_, _, rfl, run_takeDeferred hK, ?_⟩⟩
    have hst : Stab 0 (fun V => Blk V g8 33 #[.bool sr, .slice Ar nr cr] ∧ Blk V g9 3 #[.int .i64 (i + (t * k : Nat) + (k : Int))] ∧ Blk V g10 34 #[.int .i64 0] ∧ WI V (.agg #[.bool sr, .slice Ar nr cr]) ((tryN seed s.data.toList i k t % N : Nat) : Int)) :=
      Stab.and (Stab.blk _ _ _ _) (Stab.and (Stab.blk _ _ _ _) (Stab.and (Stab.blk _ _ _ _) (fun _ _ _ h hg hr => h.kept hg (fun r e => (hr r e).2))))
    have hfin := hst.put (W := W) (l := D) (.deferred none) ⟨hb8, hb9, hb10, hwi⟩ (Nat.zero_le _) hK rfl
    refine ⟨_, res_ccc rfl _ rfl (aggInt.load hfin.1) rfl (flatInt.load hfin.2.1) rfl (flatErr.load hfin.2.2.1), sr, Ar, nr, cr, t, rfl, ht, hfin.2.2.2, New.of_below (hB2.trans (belowK_b (w := w) (Nat.le_refl _) _ D _ _ (by have := HNW.out.size; omega) hK rfl rfl))⟩
  case body =>
    rintro l' pre x W ⟨t, j, A, c, q1, q2, q3, q4, q5, q6, q7, q8, q9, q10, q11, q12, q13⟩ rfl
    obtain ⟨q, hq⟩ : ∃ q, pre.length = q := ⟨_, rfl⟩
    have hqb : q < 20000 := by
      have : t * k ≤ 63 * 255 := Nat.mul_le_mul (by omega) hk
      omega
    rw [hq] at q1 ⊢
    have hwr := word_range seed s.data.toList (i + q)
    obtain ⟨d, hd⟩ : ∃ d : Nat, wordI seed s.data.toList (i + q) = (d : Int) := ⟨(wordI seed s.data.toList (i + q)).toNat, (Int.toNat_of_nonneg hwr.1).symm⟩
    rw [hd] at hwr ⊢
    have hdb : d < 18446744073709551616 := by have := hwr.2; omega
    have hc20 := q10.cell 0 (u := .slice A j c) rfl
    have hf20 := q10.frozen 0
    have HK11 := Lib.hid H8.out.2.2.2.2.1
    have hrest : ∀ b, b < w8.heap.size → b ∉ [g8, g9, g10, g19, g20] → W.heap[b]? = w8.heap[b]? := fun b h1 h2 => q5 b ⟨h1, h2⟩
    have hb11 : Blk W g11 3 #[.int .i64 (k : Int)] := (hrest g11 (by have := HG.out; omega) (by have := HG.out; simp; omega)).trans HK11.out
    have HQ := Lib.hid (And.intro q4 (And.intro q5 (And.intro q6 (And.intro q7 (And.intro q8 (And.intro q9 (And.intro q10 (And.intro q12 (And.intro hb11 (And.intro hq (And.intro hd q1)))))))))))
    have HO := Lib.hid q11
    have hsz := q13
    have hi1 := hI.out.1
    have hi2 := hI.out.2
    have hg20 : g20 < w8.heap.size := by have := HG.out; omega
    have hneO : ∀ b, blk A = some b → w8.heap.size ≤ b := fun b hb => (own_blk_le HO.out hb).1
    have HNE := Lib.hid hneO
    have hk11 := hb11.cell 0 (u := .int .i64 (k : Int)) rfl
    have HK := Lib.hid hk11
    clear q4 q5 q6 q7 q8 q9 q10 q11 q12 hb11 hq hd q1 hwr hi hrest hneO HK11 hk11 hk0
    have hrl : ∀ V : World, Rd (V.alloc (.cells #[.int .u64 (d : Int)] 65)) (some ⟨V.heap.size, 0, none⟩) 1 (nv .u64 [d]) := fun V => Rd.lit (nv .u64 [d]) rfl
    have HRL := Lib.hid hrl
    clear hrl
    have hg11 : g11 < w8.heap.size := by have := HG.out; omega
    have n1 : ¬ g11 = g20 := by have := HG.out; omega
    have n2 : ¬ g20 = g11 := by omega
    have fin3 : ∀ A' c' w2, w2.ownsRow w8.heap.size 65 1 (.slice A' (j + 1) c') (j + 1) (nv .u64 (wordsL seed s.data.toList (i + (t * k : Nat)) j) ++ nv .u64 [d]) → (W.alloc (.cells #[.int .u64 (d : Int)] 65)).grownBy w2 (blk A) →
        (∀ b, b < w8.heap.size → b ≠ g20 → (w2.setCell ⟨g20, 0, none⟩ (.slice A' (j + 1) c')).heap[b]? = W.heap[b]?) ∧ Blk (w2.setCell ⟨g20, 0, none⟩ (.slice A' (j + 1) c')) g20 102 #[.slice A' (j + 1) c'] ∧
        (w2.setCell ⟨g20, 0, none⟩ (.slice A' (j + 1) c')).ownsRow w8.heap.size 65 1 (.slice A' (j + 1) c') (j + 1) (nv .u64 (wordsL seed s.data.toList (i + (t * k : Nat)) (j + 1))) ∧
        KeepsOthers W (w2.setCell ⟨g20, 0, none⟩ (.slice A' (j + 1) c')) ∧ Below w.heap.size w (w2.setCell ⟨g20, 0, none⟩ (.slice A' (j + 1) c')) ∧ W.heap.size ≤ (w2.setCell ⟨g20, 0, none⟩ (.slice A' (j + 1) c')).heap.size := by
      intro A' c' w2 hown2 hg2
      obtain ⟨q4, q5, q6, q7, q8, q9, q10, q12, hb11, hq, hd, q1⟩ := HQ.out
      have hchg : Chg (fun b => b = g20 ∨ blk A = some b) W (w2.setCell ⟨g20, 0, none⟩ (.slice A' (j + 1) c')) := (((Chg.refl _ W).alloc _).grown hg2 (fun k hk _ => .inr hk)).setCell (fun _ => .inl rfl) _
      refine ⟨fun b h1 h2 => hchg.block b (by omega) (fun h => ?_), ?_, ?_, ?_, ?_, hchg.size⟩
      · rcases h with h | h
        · exact h2 h
        · have := HNE.out b h; omega
      · exact ((q10.alloc (.cells #[.int .u64 (d : Int)] 65)).grown hg2 (fun e => by have := HNE.out _ e; omega)).set_ 0 _
      · rw [wordsL_succ seed s.data.toList _ j d (by rw [← hd]; congr 1; rw [q1]; omega), nv_append]
        exact own_chg hown2 ((Chg.refl (fun b => b = g20) w2).setCell (p := ⟨g20, 0, none⟩) (fun _ => rfl) _) (fun b hb e => by have := (own_blk_le hown2 hb).1; omega)
      · exact (KeepsOthers.alloc _ _).trans ((KeepsOthers.of_app (own_chg HO.out ((Chg.refl (fun _ => False) _).alloc _) (fun _ _ h => h)) hg2).trans (KeepsOthers.setCell _ _ _))
      · exact q12.trans (hchg.below (fun b h => by
          have := HG.out
          rcases h with h | h
          · omega
          · have := HNE.out b h; have := HNW.out.size; omega) q12.size)
    have F3 := Lib.hid fin3
    clear fin3
    by_cases hjk : j + 1 < k
    · have hjk1 : ((j + 1 : Nat) : Int) < (k : Int) := by omega
      have hjk2 : (j : Int) + 1 < (k : Int) := by omega
      gi_wp2_with (gi_at_builtin; refine wpListIn_app elemWords rfl _ _ rfl rfl (own_chg HO.out ((Chg.refl (fun _ => False) _).alloc _) (fun _ _ h => h)) rfl (HRL.out _) (nv_one _) (by simp only [maxLen]; omega) (by omega) (by simp; omega) ?_; intro A' c' w2 hown2 hg2 hat2; have hb20 := ((HQ.out.2.2.2.2.2.2.1).alloc (.cells #[.int .u64 (d : Int)] 65)).grown hg2 (fun e => by have := HNE.out _ e; omega); have hcc2 := hb20.cell 0 rfl; have hff2 := hb20.frozen 0; have hk2 := (((HQ.out.2.2.2.2.2.2.2.2.1).alloc (.cells #[.int .u64 (d : Int)] 65)).grown hg2 (fun e => by have := HNE.out _ e; omega)).cell 0 (u := .int .i64 (k : Int)) rfl; have hk3 := ((((((HQ.out.2.2.2.2.2.2.2.2.1).alloc (.cells #[.int .u64 (d : Int)] 65)).grown hg2 (fun e => by have := HNE.out _ e; omega))).far (p := ⟨g20, 0, none⟩) (by dsimp only; omega) (.slice A' (j + 1) c')).alloc (.cells #[.bool false, .slice none 0 0] 33)).cell 0 (u := .int .i64 (k : Int)) rfl; have HA := Lib.hid (And.intro hown2 (And.intro hg2 hb20)); clear hown2 hg2 hat2 hb20)
      obtain ⟨hlow, hb20, hown3, hko, hbel, hsz3⟩ := F3.out _ _ _ HA.out.1 HA.out.2.1
      obtain ⟨q4, q5, q6, q7, q8, q9, q10, q12, hb11, hq, hd, q1⟩ := HQ.out
      have hg := HG.out
      refine ⟨hko.from _, ?_, t, j + 1, A', c', ?_, hjk, q3, q4, ?_, (hlow g8 (by omega) (by omega)).trans q6, (hlow g9 (by omega) (by omega)).trans q7, (hlow g10 (by omega) (by omega)).trans q8, (hlow g19 (by omega) (by omega)).trans q9, hb20, hown3, hbel, by omega⟩
      · intro b hb
        refine hlow b ?_ ?_ <;> rcases hb with rfl | rfl | rfl <;> omega
      · rw [List.length_append, hq]; simp; omega
      · intro b hb
        exact (hlow b hb.1 (fun e => hb.2 (by simp [e]))).trans (q5 b hb)
    · have hjk1 : decide (((j + 1 : Nat) : Int) < (k : Int)) = false := by simp; omega
      have hjk2 : decide ((j : Int) + 1 < (k : Int)) = false := by simp; omega
      gi_wp2_with (gi_at_builtin; refine wpListIn_app elemWords rfl _ _ rfl rfl (own_chg HO.out ((Chg.refl (fun _ => False) _).alloc _) (fun _ _ h => h)) rfl (HRL.out _) (nv_one _) (by simp only [maxLen]; omega) (by omega) (by simp; omega) ?_; intro A' c' w2 hown2 hg2 hat2; have hb20 := ((HQ.out.2.2.2.2.2.2.1).alloc (.cells #[.int .u64 (d : Int)] 65)).grown hg2 (fun e => by have := HNE.out _ e; omega); have hcc2 := hb20.cell 0 rfl; have hff2 := hb20.frozen 0; have hk2 := (((HQ.out.2.2.2.2.2.2.2.2.1).alloc (.cells #[.int .u64 (d : Int)] 65)).grown hg2 (fun e => by have := HNE.out _ e; omega)).cell 0 (u := .int .i64 (k : Int)) rfl; have hk3 := ((((((HQ.out.2.2.2.2.2.2.2.2.1).alloc (.cells #[.int .u64 (d : Int)] 65)).grown hg2 (fun e => by have := HNE.out _ e; omega))).far (p := ⟨g20, 0, none⟩) (by dsimp only; omega) (.slice A' (j + 1) c')).alloc (.cells #[.bool false, .slice none 0 0] 33)).cell 0 (u := .int .i64 (k : Int)) rfl; have HA := Lib.hid (And.intro hown2 (And.intro hg2 hb20)); clear hown2 hg2 hat2 hb20)
      have hjk' : j + 1 = k := by omega
      obtain ⟨hlow, hb20, hown3, hko, hbel, hsz3⟩ := F3.out _ _ _ HA.out.1 HA.out.2.1
      clear hcc2 hff2 hk2 hk3 HA F3 HO HRL hc20 hf20
      have hzz : (w2.setCell ⟨g20, 0, none⟩ (.slice A' (j + 1) c')).heap.size = w2.heap.size := by simp [World.setCell]
      generalize w2.setCell ⟨g20, 0, none⟩ (.slice A' (j + 1) c') = V3 at *
      rw [hjk'] at hb20 hown3
      obtain ⟨L, hL⟩ : ∃ L, wordsL seed s.data.toList (i + (t * k : Nat)) k = L := ⟨_, rfl⟩
      have hLl : L.length = k := by rw [← hL]; exact wordsL_len _ _ _ _
      have hLd : Digs 18446744073709551616 L := by rw [← hL]; exact wordsL_digs _ _ _ _
      have hLt : val 18446744073709551616 L = tryN seed s.data.toList i k t := by rw [← hL]; rfl
      rw [hL] at hown3
      obtain ⟨gA, rfl, hgA, hgA2, _⟩ := own_form hown3 (by omega)
      obtain ⟨g23, hg23'⟩ : ∃ x, w2.heap.size = x := ⟨_, rfl⟩
      have hg23 : V3.heap.size = g23 := hzz.trans hg23'
      have hb23 := Blk.new V3 33 #[.bool false, .slice none 0 0]
      rw [hg23] at hb23 hgA2
      simp only [hg23']
      have hn4 : New V3 (V3.alloc (.cells #[.bool false, .slice none 0 0] 33)) := (Chg.refl _ _).alloc _
      generalize V3.alloc (.cells #[.bool false, .slice none 0 0] 33) = V4 at hb23 hn4 ⊢
      have hgs : w8.heap.size ≤ gA ∧ gA < g23 ∧ w8.heap.size ≤ g23 := by omega
      have H4 := Lib.hid (And.intro hb23 (And.intro (hb20.chg hn4 (fun h => h)) (And.intro (own_chg hown3 hn4 (fun _ _ h => h)) hn4)))
      have H3 := Lib.hid (And.intro hlow (And.intro hko (And.intro hbel (And.intro hsz3 (And.intro hb20 hown3)))))
      have HL := Lib.hid (And.intro hLl (And.intro hLd hLt))
      clear hlow hb20 hown3 hko hbel hsz3 hL hLl hLd hLt hb23 hn4 hg23 hg23' hzz hgA hgA2 hjk1 hjk2 hjk'
      gi_loopw [24] (fun v wr => ∃ e : Nat, ∃ sx Ax nx cx, v = .int .i64 ((e : Int) - 1) ∧ e ≤ k ∧ Hid (Blk wr g23 33 #[.bool sx, .slice Ax nx cx] ∧ WI wr (.agg #[.bool sx, .slice Ax nx cx]) ((val 18446744073709551616 (L.drop e) : Nat) : Int) ∧ Chg (fun b => b = g23) V4 wr)) (fun v _ => (intOf v + 1).toNat)
      case atStart =>
        refine ⟨k, false, none, 0, 0, rfl, Nat.le_refl _, H4.out.1, ?_, Chg.refl _ _⟩
        rw [List.drop_of_length_le (by rw [HL.out.1]; exact Nat.le_refl _)]
        exact WI.zero _
      case round =>
        obtain ⟨e, sx, Ax, nx, cx, rfl, he, HE⟩ := hrel
        obtain ⟨wo, rfl⟩ : ∃ wo : World, wo = wr := ⟨_, rfl⟩
        have x0 := HE.out.1.cell 0 (u := .bool sx) rfl
        have x1 := HE.out.1.cell 1 (u := .slice Ax nx cx) rfl
        have hb20 := H4.out.2.1.chg HE.out.2.2 (show g20 ≠ g23 by omega)
        have y0 := hb20.cell 0 (u := .slice (some ⟨gA, 0, none⟩) k c') rfl
        by_cases h0 : e = 0
        · subst h0
          obtain ⟨q4, q5, q6, q7, q8, q9, q10, q12, hb11, hq, hd, q1⟩ := HQ.out
          obtain ⟨hlow, hko, hbel, hsz3, hb20', hown3⟩ := H3.out
          have hg := HG.out
          have hb19 : Blk V3 g19 3 #[.int .i64 (t : Int)] := (hlow g19 (by omega) (by omega)).trans q9
          have hb19' := (hb19.chg H4.out.2.2.2 (fun h => h)).chg HE.out.2.2 (show g19 ≠ g23 by omega)
          have hfz19 := hb19'.frozen 0
          have hc19 := hb19'.cell 0 (u := .int .i64 (t : Int)) rfl
          have hfz20 := hb20.frozen 0
          have hup := run_upto (P := Tryd.prog) elemWords .i64 (some ⟨gA, 0, none⟩) k c' 0 0 rfl (Nat.zero_le _)
          have hlw : ∀ b, b < w8.heap.size → b ≠ g20 → b ≠ g19 → ((wo.setCell ⟨g20, 0, none⟩ (.slice (some ⟨gA, 0, none⟩) 0 c')).setCell ⟨g19, 0, none⟩ (.int .i64 ((t : Int) + 1))).heap[b]? = W.heap[b]? := fun b h1 h2 h3 => by
            rw [Below.heap_setCell _ ⟨g19, 0, none⟩ _ b h3, Below.heap_setCell _ ⟨g20, 0, none⟩ _ b h2, HE.out.2.2.block b (Nat.lt_of_lt_of_le h1 (by have := H4.out.2.2.2.size; omega)) (by omega), H4.out.2.2.2.block b (by omega) (fun h => h)]
            exact hlow b h1 h2
          have hch0 : Chg (fun b => b = g20) wo (wo.setCell ⟨g20, 0, none⟩ (.slice (some ⟨gA, 0, none⟩) 0 c')) := (Chg.refl (fun b => b = g20) wo).setCell (p := ⟨g20, 0, none⟩) (fun _ => rfl) _
          have hb19'' := hb19'.far (p := ⟨g20, 0, none⟩) (by dsimp only; omega) (.slice (some ⟨gA, 0, none⟩) 0 c')
          have hch1 : Chg (fun b => b = g19) (wo.setCell ⟨g20, 0, none⟩ (.slice (some ⟨gA, 0, none⟩) 0 c')) ((wo.setCell ⟨g20, 0, none⟩ (.slice (some ⟨gA, 0, none⟩) 0 c')).setCell ⟨g19, 0, none⟩ (.int .i64 ((t : Int) + 1))) := (Chg.refl (fun b => b = g19) _).setCell (p := ⟨g19, 0, none⟩) (fun _ => rfl) _
          have hwx := HE.out.2.1
          rw [List.drop_zero, HL.out.2.2] at hwx
          have hfin : Blk ((wo.setCell ⟨g20, 0, none⟩ (.slice (some ⟨gA, 0, none⟩) 0 c')).setCell ⟨g19, 0, none⟩ (.int .i64 ((t : Int) + 1))) g19 3 #[.int .i64 ((t : Int) + 1)] ∧ Blk ((wo.setCell ⟨g20, 0, none⟩ (.slice (some ⟨gA, 0, none⟩) 0 c')).setCell ⟨g19, 0, none⟩ (.int .i64 ((t : Int) + 1))) g20 102 #[.slice (some ⟨gA, 0, none⟩) 0 c'] ∧ Blk ((wo.setCell ⟨g20, 0, none⟩ (.slice (some ⟨gA, 0, none⟩) 0 c')).setCell ⟨g19, 0, none⟩ (.int .i64 ((t : Int) + 1))) g23 33 #[.bool sx, .slice Ax nx cx] ∧
              WI ((wo.setCell ⟨g20, 0, none⟩ (.slice (some ⟨gA, 0, none⟩) 0 c')).setCell ⟨g19, 0, none⟩ (.int .i64 ((t : Int) + 1))) (.agg #[.bool sx, .slice Ax nx cx]) ((tryN seed s.data.toList i k t : Nat) : Int) ∧ ((wo.setCell ⟨g20, 0, none⟩ (.slice (some ⟨gA, 0, none⟩) 0 c')).setCell ⟨g19, 0, none⟩ (.int .i64 ((t : Int) + 1))).ownsRow w8.heap.size 65 1 (.slice (some ⟨gA, 0, none⟩) 0 c') 0 [] ∧
              KeepsOthers W ((wo.setCell ⟨g20, 0, none⟩ (.slice (some ⟨gA, 0, none⟩) 0 c')).setCell ⟨g19, 0, none⟩ (.int .i64 ((t : Int) + 1))) ∧ Below w.heap.size w ((wo.setCell ⟨g20, 0, none⟩ (.slice (some ⟨gA, 0, none⟩) 0 c')).setCell ⟨g19, 0, none⟩ (.int .i64 ((t : Int) + 1))) ∧ w8.heap.size ≤ ((wo.setCell ⟨g20, 0, none⟩ (.slice (some ⟨gA, 0, none⟩) 0 c')).setCell ⟨g19, 0, none⟩ (.int .i64 ((t : Int) + 1))).heap.size ∧
              (∀ b, b < w8.heap.size → b ≠ g20 → b ≠ g19 → ((wo.setCell ⟨g20, 0, none⟩ (.slice (some ⟨gA, 0, none⟩) 0 c')).setCell ⟨g19, 0, none⟩ (.int .i64 ((t : Int) + 1))).heap[b]? = W.heap[b]?) := by
            refine ⟨hb19''.set_ 0 _, (hb20.set_ 0 _).chg hch1 (show g20 ≠ g19 by omega), (HE.out.1.chg hch0 (show g23 ≠ g20 by omega)).chg hch1 (show g23 ≠ g19 by omega), (hwx.far hb20 (fun d h => by simp at h) hch0).far hb19'' (fun d h => by simp at h) hch1, ?_, ?_, ?_, ?_, hlw⟩
            · exact own_chg (own_chg (own_chg (own_cut0 H4.out.2.2.1) HE.out.2.2 (fun b hb e => by simp [blk] at hb; omega)) hch0 (fun b hb e => by simp [blk] at hb; omega)) hch1 (fun b hb e => by simp [blk] at hb; omega)
            · exact hko.trans ((New.keepsO H4.out.2.2.2).trans ((KeepsOthers.of_chg1 H4.out.1 HE.out.2.2).trans ((KeepsOthers.setCell _ _ _).trans (KeepsOthers.setCell _ _ _))))
            · have hc1 := ((Chg.new (Chg.refl (fun b => w8.heap.size ≤ b ∨ b = g20 ∨ b = g19) V3) H4.out.2.2.2).trans HE.out.2.2 (fun b _ e => .inl (by omega))).trans hch0 (fun b _ e => .inr (.inl e))
              have hc2 := hc1.trans hch1 (fun b _ e => .inr (.inr e))
              exact hbel.trans (hc2.below (fun b h => by have := HNW.out.size; omega) hbel.size)
            · have h1 := hch0.size
              have h2 := hch1.size
              have h3 := HE.out.2.2.size
              have h4 := H4.out.2.2.2.size
              omega
          have m1 : ¬ g23 = g20 := by omega
          have m2 : ¬ g23 = g19 := by omega
          have m3 : ¬ g17 = g20 := by omega
          have m4 : ¬ g17 = g19 := by omega
          have m5 : ¬ g19 = g20 := by omega
          have m6 : ¬ g20 = g19 := by omega
          have hw17 : Blk W g17 33 #[.bool s6, .slice A6 n6 c6] := (q5 g17 ⟨by omega, by simp; omega⟩).trans H8.out.2.2.2.2.2.1
          have hb17 : Blk wo g17 33 #[.bool s6, .slice A6 n6 c6] := (((show Blk V3 g17 33 #[.bool s6, .slice A6 n6 c6] from (hlow g17 (by omega) (by omega)).trans hw17).chg H4.out.2.2.2 (fun h => h)).chg HE.out.2.2 (show g17 ≠ g23 by omega))
          have k0 := hb17.cell 0 (u := .bool s6) rfl
          have k1 := hb17.cell 1 (u := .slice A6 n6 c6) rfl
          have ht64 : (t : Int) < 64 := by omega
          have H5 := Lib.hid hfin
          clear q4 q5 q6 q7 q8 q9 q10 q12 hb11 hq hd q1 hlow hko hbel hsz3 hb20' hown3 hg hb19 hb19' hlw hch0 hch1 hb19'' hwx hfin hw17 hb17 hb20 H3
          gi_wp2
          generalize (wo.setCell ⟨g20, 0, none⟩ (.slice (some ⟨gA, 0, none⟩) 0 c')).setCell ⟨g19, 0, none⟩ (.int .i64 ((t : Int) + 1)) = V5 at H5 ⊢
          clear x0 x1 y0 hfz19 hc19 hfz20 hup k0 k1 HE H4
          have hnl : WI V5 (.agg #[.bool s0, .slice A0 n0 c0]) (N : Int) ∧ WI V5 (.agg #[.bool s6, .slice A6 n6 c6]) (bd : Int) ∧ Blk V5 g7 33 #[.bool s0, .slice A0 n0 c0] ∧ Keep (Rest [g8, g9, g10, g19, g20] w8.heap.size) w8 V5 := by
            have hk5 : Keep (Rest [g8, g9, g10, g19, g20] w8.heap.size) w8 V5 := fun b hb => (H5.out.2.2.2.2.2.2.2.2 b hb.1 (fun e => hb.2 (by simp [e])) (fun e => hb.2 (by simp [e]))).trans (HQ.out.2.1 b hb)
            refine ⟨HM.out.1.rest hk5 HSS.out, HM.out.2.rest hk5 HSS.out, (hk5 g7 ⟨by have := HG.out; omega, by have := HG.out; simp; omega⟩).trans H8.out.1, hk5⟩
          have HNL := Lib.hid hnl
          clear hnl
          refine ⟨trivial, (CallsIn.inRound l' (callsIn_wide.2 (compare_any _ _ _ _ V5 H5.out.2.2.2.1 HNL.out.2.1))).mono ?_⟩
          rintro e w6' ⟨rfl, hn6⟩
          have HN6 := Lib.hid hn6
          clear hn6
          obtain ⟨X, hX⟩ : ∃ X, tryN seed s.data.toList i k t = X := ⟨_, rfl⟩
          rw [hX]
          have HX := Lib.hid hX
          have hcm : decide (cmpI (X : Int) (bd : Int) < 0) = decide (X < bd) := by
            unfold cmpI
            by_cases h : X < bd
            · rw [if_pos (by omega)]; simp [h]
            · rw [if_neg (by omega)]
              split <;> simp [h]
          generalize cmpI (X : Int) (bd : Int) = C at hcm ⊢
          have hb19 := H5.out.1.chg HN6.out (fun h => h)
          have hc19 := hb19.cell 0 (u := .int .i64 ((t : Int) + 1)) rfl
          have hb23 := H5.out.2.2.1.chg HN6.out (fun h => h)
          have x0 := hb23.cell 0 (u := .bool sx) rfl
          have x1 := hb23.cell 1 (u := .slice Ax nx cx) rfl
          have hb7 := HNL.out.2.2.1.chg HN6.out (fun h => h)
          have y0 := hb7.cell 0 (u := .bool s0) rfl
          have y1 := hb7.cell 1 (u := .slice A0 n0 c0) rfl
          clear hb19 hb23 hb7 hX
          by_cases hlt : X < bd
          · have HT : Hid (X < bd ∨ t = 63) := .inl hlt
            have hC : C < 0 := by simpa [hlt] using hcm
            clear hcm
            gi_wp2
            refine ⟨trivial, CallsIn.inRound l' (callsIn_wide.2 ?_)⟩
            have hwX := (H5.out.2.2.2.1.new HN6.out)
            rw [HX.out] at hwX
            have hXb : X < topN := by
              rw [← HX.out]
              have h1 := val_lt (wordsL_digs seed s.data.toList (i + (t * k : Nat)) k)
              rw [wordsL_len] at h1
              exact Nat.lt_trans h1 (p64_top hk)
            refine (wdiv_any _ _ _ _ w6' hwX (HNL.out.1.new HN6.out) (top_big hXb 900000 (by decide)) (top_big (Nat.lt_of_le_of_lt HV.out.2.1 (p64_top hk)) 900000 (by decide)) (by omega)).mono ?_
            rintro e w7 ⟨s7, A7, n7, c7, sr, Ar, nr, cr, rfl, H7⟩
            have hn57 : New V5 w7 := HN6.out.new H7.out.2.2
            have hg := HG.out
            have hl8 : ∀ b, b < w8.heap.size → b ≠ g20 → b ≠ g19 → w7.heap[b]? = W.heap[b]? := fun b h1 h2 h3 => (hn57.block b (by have := H5.out.2.2.2.2.2.2.2.1; omega) (fun h => h)).trans (H5.out.2.2.2.2.2.2.2.2 b h1 h2 h3)
            have b8 : Blk w7 g8 33 #[.bool false, .slice none 0 0] := (hl8 g8 (by omega) (by omega) (by omega)).trans HQ.out.2.2.1
            have b9 : Blk w7 g9 3 #[.int .i64 0] := (hl8 g9 (by omega) (by omega) (by omega)).trans HQ.out.2.2.2.1
            have b10 : Blk w7 g10 34 #[.int .i64 0] := (hl8 g10 (by omega) (by omega) (by omega)).trans HQ.out.2.2.2.2.1
            have hn77 : New w7 ((w7.alloc (.cells #[.bool s7, .slice A7 n7 c7] 33)).alloc (.cells #[.bool sr, .slice Ar nr cr] 33)) := ((Chg.refl _ w7).alloc _).alloc _
            have e8 := b8.chg hn77 (fun h => h)
            have e9 := b9.chg hn77 (fun h => h)
            have e10 := b10.chg hn77 (fun h => h)
            have u80 := e8.cell 0 (u := .bool false) rfl
            have u81 := e8.cell 1 (u := .slice none 0 0) rfl
            have u90 := e9.cell 0 (u := .int .i64 0) rfl
            have u100 := e10.cell 0 (u := .int .i64 0) rfl
            have v80 := e8.frozen 0
            have v81 := e8.frozen 1
            have v90 := e9.frozen 0
            have v100 := e10.frozen 0
            have n89 : ¬ g8 = g9 := by omega
            have n98 : ¬ g9 = g8 := by omega
            have n810 : ¬ g8 = g10 := by omega
            have n108 : ¬ g10 = g8 := by omega
            have n910 : ¬ g9 = g10 := by omega
            have n109 : ¬ g10 = g9 := by omega
            have l8 := e8.lt
            have l9 := e9.lt
            have l10 := e10.lt
            have HE7 := Lib.hid (And.intro e8 (And.intro e9 (And.intro e10 (And.intro (H7.out.2.1.new hn77) (And.intro hn77 hn57)))))
            clear x0 x1 y0 y1 hc19 hwX hXb hn57 hg hl8 b8 b9 b10 hn77 e8 e9 e10
            gi_wp2
            obtain ⟨e8, e9, e10, hwr, hn77, hn57⟩ := HE7.out
            generalize (w7.alloc (.cells #[.bool s7, .slice A7 n7 c7] 33)).alloc (.cells #[.bool sr, .slice Ar nr cr] 33) = V7 at *
            obtain ⟨q4, q5, q6, q7, q8, q9, q10, q12, hb11, hq, hd, q1⟩ := HQ.out
            have hg := HG.out
            have hwz := HNW.out.size
            have hch8 := Chg.at2 V7 g8 (.bool sr) (.slice Ar nr cr)
            have e9' := e9.chg hch8 n98
            have hch9 := Chg.at1 ((V7.setCell ⟨g8, 0, none⟩ (.bool sr)).setCell ⟨g8, 1, none⟩ (.slice Ar nr cr)) g9 (.int .i64 (i + (q : Int) + 1))
            have e10' := (e10.chg hch8 n108).chg hch9 n109
            have hch10 := Chg.at1 (((V7.setCell ⟨g8, 0, none⟩ (.bool sr)).setCell ⟨g8, 1, none⟩ (.slice Ar nr cr)).setCell ⟨g9, 0, none⟩ (.int .i64 (i + (q : Int) + 1))) g10 (.int .i64 0)
            have hnx : i + (q : Int) + 1 = i + ((t * k : Nat) : Int) + (k : Int) := by omega
            have hwf := ((hwr.far e8 (fun d h => by simp at h) hch8).far e9' (fun d h => by simp at h) hch9).far e10' (fun d h => by simp at h) hch10
            rw [← Int.natCast_emod, ← HX.out] at hwf
            refine ⟨(H5.out.2.2.2.2.2.1.trans ((New.keepsO (hn57.new hn77)).trans ((KeepsOthers.setCell _ _ _).trans ((KeepsOthers.setCell _ _ _).trans ((KeepsOthers.setCell _ _ _).trans (KeepsOthers.setCell _ _ _)))))).from _, rfl, t, sr, Ar, nr, cr, ⟨by omega, q4, by rw [HX.out]; exact HT.out⟩, ((e8.set2 _ _).chg hch9 n89).chg hch10 n810, hwf, ?_, e10'.set1 _, ?_⟩
            · rw [← hnx]
              exact (e9'.set1 _).chg hch10 n910
            · have hb5 := H5.out.2.2.2.2.2.2.1
              have hb7 := hb5.trans (Chg.below (hn57.new hn77) (fun _ hf => hf.elim) hb5.size)
              exact (((hb7.setCell (p := ⟨g8, 0, none⟩) (by simp; omega) _).setCell (p := ⟨g8, 1, none⟩) (by simp; omega) _).setCell (p := ⟨g9, 0, none⟩) (by simp; omega) _).setCell (p := ⟨g10, 0, none⟩) (by simp; omega) _
          · have hC : decide (C < 0) = false := by rw [hcm]; simpa using hlt
            clear hcm
            by_cases h63 : t = 63
            · have he64 : ((t : Int) + 1 == 64) = true := by simp; omega
              have HT : Hid (X < bd ∨ t = 63) := .inr h63
              clear h63
              gi_wp2
              refine ⟨trivial, CallsIn.inRound l' (callsIn_wide.2 ?_)⟩
              have hwX := (H5.out.2.2.2.1.new HN6.out)
              rw [HX.out] at hwX
              have hXb : X < topN := by
                rw [← HX.out]
                have h1 := val_lt (wordsL_digs seed s.data.toList (i + (t * k : Nat)) k)
                rw [wordsL_len] at h1
                exact Nat.lt_trans h1 (p64_top hk)
              refine (wdiv_any _ _ _ _ w6' hwX (HNL.out.1.new HN6.out) (top_big hXb 900000 (by decide)) (top_big (Nat.lt_of_le_of_lt HV.out.2.1 (p64_top hk)) 900000 (by decide)) (by omega)).mono ?_
              rintro e w7 ⟨s7, A7, n7, c7, sr, Ar, nr, cr, rfl, H7⟩
              have hn57 : New V5 w7 := HN6.out.new H7.out.2.2
              have hg := HG.out
              have hl8 : ∀ b, b < w8.heap.size → b ≠ g20 → b ≠ g19 → w7.heap[b]? = W.heap[b]? := fun b h1 h2 h3 => (hn57.block b (by have := H5.out.2.2.2.2.2.2.2.1; omega) (fun h => h)).trans (H5.out.2.2.2.2.2.2.2.2 b h1 h2 h3)
              have b8 : Blk w7 g8 33 #[.bool false, .slice none 0 0] := (hl8 g8 (by omega) (by omega) (by omega)).trans HQ.out.2.2.1
              have b9 : Blk w7 g9 3 #[.int .i64 0] := (hl8 g9 (by omega) (by omega) (by omega)).trans HQ.out.2.2.2.1
              have b10 : Blk w7 g10 34 #[.int .i64 0] := (hl8 g10 (by omega) (by omega) (by omega)).trans HQ.out.2.2.2.2.1
              have hn77 : New w7 ((w7.alloc (.cells #[.bool s7, .slice A7 n7 c7] 33)).alloc (.cells #[.bool sr, .slice Ar nr cr] 33)) := ((Chg.refl _ w7).alloc _).alloc _
              have e8 := b8.chg hn77 (fun h => h)
              have e9 := b9.chg hn77 (fun h => h)
              have e10 := b10.chg hn77 (fun h => h)
              have u80 := e8.cell 0 (u := .bool false) rfl
              have u81 := e8.cell 1 (u := .slice none 0 0) rfl
              have u90 := e9.cell 0 (u := .int .i64 0) rfl
              have u100 := e10.cell 0 (u := .int .i64 0) rfl
              have v80 := e8.frozen 0
              have v81 := e8.frozen 1
              have v90 := e9.frozen 0
              have v100 := e10.frozen 0
              have n89 : ¬ g8 = g9 := by omega
              have n98 : ¬ g9 = g8 := by omega
              have n810 : ¬ g8 = g10 := by omega
              have n108 : ¬ g10 = g8 := by omega
              have n910 : ¬ g9 = g10 := by omega
              have n109 : ¬ g10 = g9 := by omega
              have l8 := e8.lt
              have l9 := e9.lt
              have l10 := e10.lt
              have HE7 := Lib.hid (And.intro e8 (And.intro e9 (And.intro e10 (And.intro (H7.out.2.1.new hn77) (And.intro hn77 hn57)))))
              clear x0 x1 y0 y1 hc19 hwX hXb hn57 hg hl8 b8 b9 b10 hn77 e8 e9 e10
              gi_wp2
              obtain ⟨e8, e9, e10, hwr, hn77, hn57⟩ := HE7.out
              generalize (w7.alloc (.cells #[.bool s7, .slice A7 n7 c7] 33)).alloc (.cells #[.bool sr, .slice Ar nr cr] 33) = V7 at *
              obtain ⟨q4, q5, q6, q7, q8, q9, q10, q12, hb11, hq, hd, q1⟩ := HQ.out
              have hg := HG.out
              have hwz := HNW.out.size
              have hch8 := Chg.at2 V7 g8 (.bool sr) (.slice Ar nr cr)
              have e9' := e9.chg hch8 n98
              have hch9 := Chg.at1 ((V7.setCell ⟨g8, 0, none⟩ (.bool sr)).setCell ⟨g8, 1, none⟩ (.slice Ar nr cr)) g9 (.int .i64 (i + (q : Int) + 1))
              have e10' := (e10.chg hch8 n108).chg hch9 n109
              have hch10 := Chg.at1 (((V7.setCell ⟨g8, 0, none⟩ (.bool sr)).setCell ⟨g8, 1, none⟩ (.slice Ar nr cr)).setCell ⟨g9, 0, none⟩ (.int .i64 (i + (q : Int) + 1))) g10 (.int .i64 0)
              have hnx : i + (q : Int) + 1 = i + ((t * k : Nat) : Int) + (k : Int) := by omega
              have hwf := ((hwr.far e8 (fun d h => by simp at h) hch8).far e9' (fun d h => by simp at h) hch9).far e10' (fun d h => by simp at h) hch10
              rw [← Int.natCast_emod, ← HX.out] at hwf
              refine ⟨(H5.out.2.2.2.2.2.1.trans ((New.keepsO (hn57.new hn77)).trans ((KeepsOthers.setCell _ _ _).trans ((KeepsOthers.setCell _ _ _).trans ((KeepsOthers.setCell _ _ _).trans (KeepsOthers.setCell _ _ _)))))).from _, rfl, t, sr, Ar, nr, cr, ⟨by omega, q4, by rw [HX.out]; exact HT.out⟩, ((e8.set2 _ _).chg hch9 n89).chg hch10 n810, hwf, ?_, e10'.set1 _, ?_⟩
              · rw [← hnx]
                exact (e9'.set1 _).chg hch10 n910
              · have hb5 := H5.out.2.2.2.2.2.2.1
                have hb7 := hb5.trans (Chg.below (hn57.new hn77) (fun _ hf => hf.elim) hb5.size)
                exact (((hb7.setCell (p := ⟨g8, 0, none⟩) (by simp; omega) _).setCell (p := ⟨g8, 1, none⟩) (by simp; omega) _).setCell (p := ⟨g9, 0, none⟩) (by simp; omega) _).setCell (p := ⟨g10, 0, none⟩) (by simp; omega) _
            · have he64 : ((t : Int) + 1 == 64) = false := by simp; omega
              gi_wp2
              obtain ⟨q4, q5, q6, q7, q8, q9, q10, q12, hb11, hq, hd, q1⟩ := HQ.out
              have hg := HG.out
              obtain ⟨r1, r2, r3, r4, r5, r6, r7, r8, r9⟩ := H5.out
              have hn6 := HN6.out
              have hl6 : ∀ b, b < w8.heap.size → b ≠ g20 → b ≠ g19 → w6'.heap[b]? = W.heap[b]? := fun b h1 h2 h3 => (hn6.block b (by omega) (fun h => h)).trans (r9 b h1 h2 h3)
              refine ⟨(r6.trans (New.keepsO hn6)).from _, ?_, t + 1, 0, some ⟨gA, 0, none⟩, c', ?_, by omega, by omega, ?_, ?_, (hl6 g8 (by omega) (by omega) (by omega)).trans q6, (hl6 g9 (by omega) (by omega) (by omega)).trans q7, (hl6 g10 (by omega) (by omega) (by omega)).trans q8, ?_, r2.chg hn6 (fun h => h), own_chg r5 hn6 (fun _ _ h => h), r7.trans (Chg.below hn6 (fun _ hf => hf.elim) r7.size), Nat.le_trans r8 hn6.size⟩
              · intro b hb
                refine hl6 b ?_ ?_ ?_ <;> rcases hb with rfl | rfl | rfl <;> omega
              · rw [List.length_append, hq, Nat.succ_mul]
                simp
                omega
              · intro u hu
                rcases Nat.lt_or_ge u t with h | h
                · exact q4 u h
                · obtain rfl : u = t := by omega
                  rw [HX.out]
                  exact hlt
              · intro b hb
                exact (hl6 b hb.1 (fun e => hb.2 (by simp [e])) (fun e => hb.2 (by simp [e]))).trans (q5 b hb)
              · have := r1.chg hn6 (fun h => h)
                rw [Int.natCast_add]
                exact this
        · obtain ⟨f, rfl⟩ : ∃ f, e = f + 1 := ⟨e - 1, by omega⟩
          have hij : (((f + 1 : Nat) : Int) - 1) = (f : Int) := by omega
          rw [hij]
          obtain ⟨dd, hdd⟩ : ∃ dd, L[f]? = some dd := ⟨_, List.getElem?_eq_getElem (by rw [HL.out.1]; omega)⟩
          have hddb : dd < 18446744073709551616 := HL.out.2.1 dd (List.mem_of_getElem? hdd)
          have hst := val_drop (B := 18446744073709551616) hdd
          have z0 := own_cell (own_chg H4.out.2.2.1 HE.out.2.2 (fun b hb e => by simp [blk] at hb; omega)) (i := f) (u := .int .u64 (dd : Int)) (by unfold nv; rw [List.getElem?_map, hdd]; rfl)
          have hvb : val 18446744073709551616 (L.drop f) < topN := by
            have h1 := val_lt (HL.out.2.1.drop f)
            rw [List.length_drop, HL.out.1] at h1
            exact Nat.lt_trans h1 (p64_top (k := k - f) (by omega))
          have HS := Lib.hid (And.intro hst hvb)
          have hfk : (f : Int) < (k : Int) := by omega
          have HN0 : Hid (New wo wo.drew) := (Chg.refl _ wo).drew
          have HC := Lib.hid (And.intro x0 (And.intro x1 hb20))
          clear hst hvb hdd hij hb20
          gi_wp2
          gi_region_with (first
            | (refine ⟨trivial, ?_⟩; gi_at_call 71; (with_reducible refine (CallsIn.inRound l' (callsIn_wide.2 (lift_any _ _ dd _ (by rw [HS.out.1, Nat.add_comm, Nat.mul_comm]) HS.out.2 hddb _ (HE.out.2.1.new HN0.out)))).mono ?_); rintro e w5 ⟨s5, A5, n5, c5, rfl, H5⟩; have HN5 : Hid (New wo w5) := HN0.out.new H5.out.2; have hbb5 := HE.out.1.chg HN5.out (fun h => h); have e0 := hbb5.cell 0 (u := .bool sx) rfl; have e1 := hbb5.cell 1 (u := .slice Ax nx cx) rfl; have f0 := hbb5.frozen 0; have f1 := hbb5.frozen 1; have HB5 := Lib.hid hbb5; clear hbb5))
          all_goals
            clear x0 x1 y0 z0 e0 e1 f0 f1
            gi_wp2
            go_roundw
            case rel =>
              have hch := Chg.at2 w5 g23 (.bool s5) (.slice A5 n5 c5)
              exact ⟨f, s5, A5, n5, c5, by go_num, by omega, HB5.out.set2 _ _, H5.out.1.store HB5.out (noInt_two _ _ _ _) hch, (HE.out.2.2.new HN5.out).trans hch (fun _ _ h => h)⟩
            case measure => simp [intOf]
end Go.Proofs.YtgofjkppeobjfaaDoor

namespace Go.Proofs.YtgofjkppeobjfaaDoor
set_option linter.unusedVariables false
open Go.RowKit Go.Mem Go.Dig Go.Pure

set_option maxHeartbeats 1000000 in
theorem big_limit (seed : Int) (lab : ByteArray) (i : Int) (v : Value) (N : Nat) (hN : p64 255 < N) (w : World) (hv : WI w v (N : Int)) :
    Calls Tryd.prog 41 #[.int .u64 seed, .string lab, .int .i64 i, v] w fun e w' => e = .returned (.tuple #[.agg #[.bool false, .slice none 0 0], .int .i64 i, .int .i64 4]) ∧ New w w' := by
  obtain ⟨s, A, n, c, rfl, hs, hm⟩ := hv
  have H := Lib.hid (And.intro hs hm)
  have HNN := Lib.hid hN
  clear hs hm hN
  go_enter Tryd.func41, Tryd.ntmps41
  go_wp2_with fail
  refine Calls.new4 ?_
  intro W hb1 hb2 hb3 hb4 hn hz
  have hwi : WI W (.agg #[.bool s, .slice A n c]) (N : Int) := WI.new ⟨s, A, n, c, rfl, H.out⟩ hn
  refine (sign_any _ (N : Int) W hwi).mono ?_
  rintro e w1 ⟨rfl, hn1⟩
  rw [show cmpI (N : Int) 0 = 1 from cmpI_gt (by have := HNN.out; omega)]
  have hc := hb1.chg hn1 (fun h => h)
  have hc0 := hc.cell 0 rfl
  have hc1 := hc.cell 1 rfl
  have H1 := Lib.hid (And.intro hb2 (And.intro hb3 (And.intro hb4 (And.intro hn (And.intro hn1 (hwi.new hn1))))))
  have hz1 : w.heap.size + 4 ≤ w1.heap.size := by have := hn1.size; omega
  clear hb1 hb2 hb3 hb4 hn hn1 hwi hc hz H
  go_wp2_with fail
  refine (parts_no _ N HNN.out w1 H1.out.2.2.2.2.2).mono ?_
  rintro e w2 ⟨rfl, hn2⟩
  obtain ⟨hb2, hb3, hb4, hn, hn1, _⟩ := H1.out
  have hd2 := (hb2.chg hn1 (fun h => h)).chg hn2 (fun h => h)
  have hd3 := (hb3.chg hn1 (fun h => h)).chg hn2 (fun h => h)
  have hd4 := (hb4.chg hn1 (fun h => h)).chg hn2 (fun h => h)
  have hcA := hd2.cell 0 (u := .bool false) rfl
  have hcB := hd2.cell 1 (u := .slice none 0 0) rfl
  have hcC := hd3.cell 0 (u := .int .i64 0) rfl
  have hcD := hd4.cell 0 (u := .int .i64 0) rfl
  have hl0 : w.heap.size < w2.heap.size := by have := hd2.lt; omega
  have hlA := hd2.lt
  have hlC := hd3.lt
  have hlD := hd4.lt
  have hfA := hd2.frozen 0
  have hfB := hd2.frozen 1
  have hfC := hd3.frozen 0
  have hfD := hd4.frozen 0
  have hz2 : w.heap.size + 4 ≤ w2.heap.size := by have := hn2.size; omega
  have H2 := Lib.hid (And.intro hd2 (And.intro hd3 (And.intro hd4 ((hn.new hn1).new hn2))))
  clear hb2 hb3 hb4 hn hn1 hn2 hd2 hd3 hd4 H1 hc0 hc1 hz1
  go_wp2_with fail
  obtain ⟨hd2, hd3, hd4, hn⟩ := H2.out
  have k2 := ((((hd2.set2 (.bool false) (.slice none 0 0)).far (p := ⟨w.heap.size + 1 + 1, 0, none⟩) (by dsimp only; omega) (.int .i64 i)).far (p := ⟨w.heap.size + 1 + 1 + 1, 0, none⟩) (by dsimp only; omega) (.int .i64 4)).alloc (.cells #[.int .i64 0] 3)).alloc (.cells #[.bool false, .slice none 0 0] 33)
  have k3 := (((((hd3.far (p := ⟨w.heap.size + 1, 0, none⟩) (by dsimp only; omega) (.bool false)).far (p := ⟨w.heap.size + 1, 1, none⟩) (by dsimp only; omega) (.slice none 0 0)).set1 (.int .i64 i)).far (p := ⟨w.heap.size + 1 + 1 + 1, 0, none⟩) (by dsimp only; omega) (.int .i64 4)).alloc (.cells #[.int .i64 0] 3)).alloc (.cells #[.bool false, .slice none 0 0] 33)
  have k4 := (((((hd4.far (p := ⟨w.heap.size + 1, 0, none⟩) (by dsimp only; omega) (.bool false)).far (p := ⟨w.heap.size + 1, 1, none⟩) (by dsimp only; omega) (.slice none 0 0)).far (p := ⟨w.heap.size + 1 + 1, 0, none⟩) (by dsimp only; omega) (.int .i64 i)).set1 (.int .i64 4)).alloc (.cells #[.int .i64 0] 3)).alloc (.cells #[.bool false, .slice none 0 0] 33)
  refine bodyPost_ret (res_ccc rfl _ rfl (aggInt.load k2) rfl (flatInt.load k3) rfl (flatErr.load k4)) rfl ⟨rfl, ?_⟩
  exact (((((hn.setCell (fun h => absurd h (by simp)) _).setCell (fun h => absurd h (by simp)) _).setCell (fun h => absurd h (by simp; omega)) _).setCell (fun h => absurd h (by simp; omega)) _).alloc _).alloc _

end Go.Proofs.YtgofjkppeobjfaaDoor
