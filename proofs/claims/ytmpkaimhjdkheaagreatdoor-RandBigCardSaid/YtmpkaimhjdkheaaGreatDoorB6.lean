/- The parts BigB, Words, BigC, BigD, RefK, RefL, RefM, RefBig of the proof, in one text. -/
import Derived.Stop.RegionWithIn
import Derived.Deep.RegionWith
import Derived.Deep.RegionHeld3
import Derived.Test.YtmpkaimhjdkheaaGreatDoorB5
set_option linter.unusedSimpArgs false
set_option linter.unusedVariables false

namespace Go.Proofs.YtmpkaimhjdkheaaGreatDoor
set_option linter.unusedVariables false
open Go.RowKit Go.Mem Go.Dig Go.Pure

def p64 (k : Nat) : Nat := 18446744073709551616 ^ k
theorem p64_zero : p64 0 = 1 := rfl
theorem p64_succ (k : Nat) : p64 (k + 1) = p64 k * 18446744073709551616 := Nat.pow_succ _ _
theorem p64_two (k : Nat) : p64 k = 2 ^ (64 * k) := by
  unfold p64
  rw [Nat.pow_mul]
theorem p64_le {a b : Nat} (h : a ≤ b) : p64 a ≤ p64 b := Nat.pow_le_pow_right (by omega) h
theorem p64_lt {a b : Nat} (h : a < b) : p64 a < p64 b := Nat.pow_lt_pow_right (by omega) h
theorem top_p64 (k : Nat) (hk : k = 256) : topN = p64 k := by
  subst hk
  rw [p64_two, show topN = powN 512 from rfl, powN_two' 512 (64 * 256) (by decide)]
theorem p64_top {k : Nat} (h : k ≤ 255) : p64 k < topN := by
  obtain ⟨K, hK⟩ : ∃ K, K = 256 := ⟨_, rfl⟩
  rw [top_p64 K hK]
  exact p64_lt (by omega)
theorem cmp_le {a b : Nat} : decide (cmpI (a : Int) (b : Int) ≤ 0) = decide (a ≤ b) := by
  unfold cmpI
  split
  · have : a ≤ b := by omega
    simp [this]
  · split
    · have : ¬ a ≤ b := by omega
      simp [this]
    · have : a ≤ b := by omega
      simp [this]

set_option maxRecDepth 100000 in
set_option maxHeartbeats 2000000 in
theorem parts_ok (v : Value) (N k : Nat) (hk : k ≤ 255) (hN : N ≤ p64 k) (hl : ∀ j, j < k → p64 j < N) (w : World) (hv : WI w v (N : Int)) :
    Calls Tryz.prog 28 #[v] w fun e w' => ∃ s A n c, e = .returned (.tuple #[.int .i64 k, .agg #[.bool s, .slice A n c], .bool true]) ∧ Hid (WI w' (.agg #[.bool s, .slice A n c]) ((p64 k : Nat) : Int) ∧ New w w') := by
  obtain ⟨s0, A0, n0, c0, rfl, hs, hm⟩ := hv
  have H := Lib.hid (And.intro hs (And.intro hm (And.intro hN hl)))
  clear hs hm hN hl
  go_enter Tryz.func28, Tryz.ntmps28
  go_wp2_with fail
  refine Calls.new2 ?_
  intro W hb1 hb2 hn hz
  obtain ⟨g1, hg1⟩ : ∃ x, w.heap.size = x := ⟨_, rfl⟩
  obtain ⟨g2, hg2⟩ : ∃ x, w.heap.size + 1 = x := ⟨_, rfl⟩
  rw [hg1] at hb1
  rw [hg2] at hb2
  simp only [hg2]
  simp only [hg1]
  refine (from_b 1 W (by omega) (by omega)).mono ?_
  rintro e w1 ⟨s1, A1, n1, c1, rfl, H1⟩
  have hz1 : W.heap.size ≤ w1.heap.size := H1.out.2.size
  go_wp2_with fail
  refine Code.new1 ?_
  intro W2 hb5 hn5 hz5
  obtain ⟨g5, hg5⟩ : ∃ x, w1.heap.size = x := ⟨_, rfl⟩
  rw [hg5] at hb5
  simp only [hg5]
  have hgs : w.heap.size ≤ g1 ∧ g1 < g2 ∧ g2 < g5 := by omega
  have HG := Lib.hid hgs
  have HB := Lib.hid (And.intro (hb1.chg (H1.out.2.new hn5) (fun h => h)) (And.intro (hb2.chg (H1.out.2.new hn5) (fun h => h)) (And.intro hb5 (And.intro (H1.out.1.new hn5) (hn.new (H1.out.2.new hn5))))))
  clear hb1 hb2 hn hz hg1 hg2 hz1 hb5 hn5 hz5 hg5 hgs H1
  go_loopw [6] (fun i wr => ∃ j : Nat, ∃ s A n c, i = .int .i64 (j : Int) ∧ j ≤ k ∧ Hid (Blk wr g1 35 #[.bool s0, .slice A0 n0 c0] ∧ Blk wr g2 35 #[.bool false, .slice none 0 0] ∧ Blk wr g5 35 #[.bool s, .slice A n c] ∧ WI wr (.agg #[.bool s, .slice A n c]) ((p64 j : Nat) : Int) ∧ New w wr)) (fun i _ => 300 - (intOf i).toNat)
  case atStart => exact ⟨0, s1, A1, n1, c1, rfl, by omega, HB.out⟩
  case round =>
    clear HB
    obtain ⟨j, s, A, n, c, rfl, hj, HI⟩ := hrel
    have hle : (j : Int) ≤ 255 := by omega
    have hc10 := HI.out.1.cell 0 (u := .bool s0) rfl
    have hc11 := HI.out.1.cell 1 (u := .slice A0 n0 c0) rfl
    have hc50 := HI.out.2.2.1.cell 0 (u := .bool s) rfl
    have hc51 := HI.out.2.2.1.cell 1 (u := .slice A n c) rfl
    go_wp2_with fail
    refine (compare_any _ _ (N : Int) ((p64 j : Nat) : Int) wr (WI.new ⟨s0, A0, n0, c0, rfl, H.out.1, H.out.2.1⟩ HI.out.2.2.2.2) HI.out.2.2.2.1).mono ?_
    rintro e w3 ⟨rfl, hn3⟩
    clear hc10 hc11 hc50 hc51
    have hcm := cmp_le (a := N) (b := p64 j)
    generalize cmpI (N : Int) ((p64 j : Nat) : Int) = C at hcm ⊢
    have HJ := Lib.hid (And.intro (HI.out.2.1.chg hn3 (fun h => h)) (And.intro (HI.out.2.2.1.chg hn3 (fun h => h)) (And.intro (HI.out.2.2.2.1.new hn3) (And.intro (HI.out.1.chg hn3 (fun h => h)) (HI.out.2.2.2.2.new hn3)))))
    clear hn3 HI
    have k50 := HJ.out.2.1.cell 0 (u := .bool s) rfl
    have k51 := HJ.out.2.1.cell 1 (u := .slice A n c) rfl
    by_cases hjk : j = k
    · subst hjk
      have hC : C ≤ 0 := by
        have := H.out.2.2.1
        simpa [this] using hcm
      have k20 := HJ.out.1.cell 0 (u := .bool false) rfl
      have k21 := HJ.out.1.cell 1 (u := .slice none 0 0) rfl
      have f20 := HJ.out.1.frozen 0
      have f21 := HJ.out.1.frozen 1
      clear hcm
      go_wp2_with fail
      go_region
      all_goals
        go_wp2
        obtain ⟨i2, i5, i3, i1, i4⟩ := HJ.out
        refine bodyPost_ret (res_tct rfl _ rfl rfl (aggInt.load (Blk.drew (i2.set2 _ _))) rfl) rfl ⟨s, A, n, c, rfl, i3.store i2 (noInt_two _ _ _ _) (Chg.at2 _ _ _ _).drew, ?_⟩
        exact Chg.owned i4 (Chg.at2 _ _ _ _).drew (fun k e => by have := HG.out; omega)
    · have hC : decide (C ≤ 0) = false := by
        rw [hcm]
        have := H.out.2.2.2 j (by omega)
        simp; omega
      have hlt : (j : Int) < 255 := by omega
      clear hcm
      go_wp2_with fail
      refine (lift_any _ (p64 j) 0 (p64 (j + 1)) (by rw [p64_succ, Nat.add_zero]) (p64_top (by omega)) (by decide) _ HJ.out.2.2.1).mono ?_
      rintro e w4 ⟨s4, A4, n4, c4, rfl, H4⟩
      have hb5 := HJ.out.2.1.chg H4.out.2 (fun h => h)
      have x0 := hb5.cell 0 (u := .bool s) rfl
      have x1 := hb5.cell 1 (u := .slice A n c) rfl
      have f0 := hb5.frozen 0
      have f1 := hb5.frozen 1
      have HB5 := Lib.hid hb5
      clear k50 k51 hb5
      go_wp2
      go_roundw
      case rel =>
        have hch := Chg.at2 w4 g5 (.bool s4) (.slice A4 n4 c4)
        exact ⟨j + 1, s4, A4, n4, c4, by go_num, by omega, (HJ.out.2.2.2.1.chg H4.out.2 (fun h => h)).chg hch (by have := HG.out; omega), (HJ.out.1.chg H4.out.2 (fun h => h)).chg hch (by have := HG.out; omega), HB5.out.set2 _ _, H4.out.1.store HB5.out (noInt_two _ _ _ _) hch, Chg.owned (HJ.out.2.2.2.2.new H4.out.2) hch (fun k e => by have := HG.out; omega)⟩
      case measure => simp [intOf]; omega
end Go.Proofs.YtmpkaimhjdkheaaGreatDoor

namespace Go.Proofs.YtmpkaimhjdkheaaGreatDoor
set_option linter.unusedVariables false
open Go.RowKit Go.Mem Go.Dig Go.Pure
theorem pow_le3 (a b : Nat) (h : a ≤ b) : 2 ^ a ≤ 2 ^ b := Nat.pow_le_pow_right (by omega) h

/-- The words of a stream from an index on, as digits. -/
def wordsL (seed : Int) (lab : List UInt8) (at_ : Int) (k : Nat) : List Nat := (List.range k).map (fun e : Nat => (wordI seed lab (at_ + e)).toNat)
theorem wordsL_len (seed : Int) (lab : List UInt8) (at_ : Int) (k : Nat) : (wordsL seed lab at_ k).length = k := by simp [wordsL]
theorem wordsL_at (seed : Int) (lab : List UInt8) (at_ : Int) {k e : Nat} (h : e < k) : (wordsL seed lab at_ k)[e]? = some (wordI seed lab (at_ + e)).toNat := by
  unfold wordsL
  rw [List.getElem?_map, List.getElem?_range h]
  rfl
theorem wordI_range (seed : Int) (lab : List UInt8) (i : Int) : 0 ≤ wordI seed lab i ∧ wordI seed lab i ≤ 18446744073709551615 := sumI_range' _ _
theorem wordsL_digs (seed : Int) (lab : List UInt8) (at_ : Int) (k : Nat) : Digs 18446744073709551616 (wordsL seed lab at_ k) := by
  intro d hd
  obtain ⟨e, _, rfl⟩ := List.mem_map.1 hd
  have := wordI_range seed lab (at_ + e)
  omega
theorem words_big {l : List Nat} (h : Digs 18446744073709551616 l) (hl : l.length ≤ 300) : ((val 18446744073709551616 l : Nat) : Int).natAbs < 2 ^ 1000000 := by
  rw [Int.natAbs_natCast]
  refine Nat.lt_of_lt_of_le (val_lt h) ?_
  rw [show 18446744073709551616 = 2 ^ 64 from rfl, ← Nat.pow_mul]
  exact pow_le3 _ 1000000 (by omega)
theorem words_big64 {l : List Nat} (h : Digs 18446744073709551616 l) (hl : l.length ≤ 300) : ((val 18446744073709551616 l : Int) * ((2 ^ 64 : Nat) : Int)).natAbs < 2 ^ 1000000 := by
  rw [← Int.natCast_mul, Int.natAbs_natCast]
  have h1 := val_lt h
  rw [show 18446744073709551616 = 2 ^ 64 from rfl, ← Nat.pow_mul] at h1
  refine Nat.lt_of_lt_of_le (Nat.mul_lt_mul_of_pos_right h1 (by decide)) ?_
  rw [← Nat.pow_add]
  exact pow_le3 _ 1000000 (by omega)

/-- Which try is taken: the first whose number is below the bound, at most 64 of them. -/
structure Taken (X : Nat → Nat) (bound t : Nat) : Prop where
  le : t ≤ 63
  skip : ∀ j, j < t → ¬ X j < bound
  stop : X t < bound ∨ t = 63
theorem Taken.uniq {X : Nat → Nat} {b t u : Nat} (h : Taken X b t) (h' : Taken X b u) : t = u := by
  rcases Nat.lt_trichotomy t u with h1 | h1 | h1
  · rcases h.stop with h2 | h2
    · exact absurd h2 (h'.skip t h1)
    · have := h'.le; omega
  · exact h1
  · rcases h'.stop with h2 | h2
    · exact absurd h2 (h.skip u h1)
    · have := h.le; omega
/-- The number that k words from try t on lead to. -/
def tryN (seed : Int) (lab : List UInt8) (i : Int) (k : Nat) (t : Nat) : Nat := val 18446744073709551616 (wordsL seed lab (i + (t * k : Nat)) k)
theorem pow_lt_K (a K : Nat) (h : a < K) : 2 ^ a < 2 ^ K := Nat.pow_lt_pow_right (by omega) h
theorem tryN_big (seed : Int) (lab : List UInt8) (i : Int) {k : Nat} (hk : k ≤ 300) (t : Nat) : ((tryN seed lab i k t : Nat) : Int).natAbs < 2 ^ 1000000 := words_big (wordsL_digs _ _ _ _) (by rw [wordsL_len]; exact hk)

end Go.Proofs.YtmpkaimhjdkheaaGreatDoor

namespace Go.Proofs.YtmpkaimhjdkheaaGreatDoor
set_option linter.unusedVariables false
open Go.RowKit Go.Shelf Go.Mem Go.Dig Go.Pure
attribute [local go_sem] Oper.semAt_some

theorem WM.kept {W W' : World} {row : Option Nat} {A : Option Addr} {n c m : Nat} (h : WM W A n c m) (hg : W.grownBy W' row) (hr : ∀ r, row = some r → ∃ o : Obj, W.heap[r]? = some o ∧ o.isCells = false) : WM W' A n c m := by
  obtain ⟨l, h1, h2⟩ := h
  exact ⟨l, rd_kept h1 hg hr, h2⟩
theorem WI.kept {W W' : World} {row : Option Nat} {v : Value} {z : Int} (h : WI W v z) (hg : W.grownBy W' row) (hr : ∀ r, row = some r → ∃ o : Obj, W.heap[r]? = some o ∧ o.isCells = false) : WI W' v z := by
  obtain ⟨s, A, n, c, h1, h2, h3⟩ := h
  exact ⟨s, A, n, c, h1, h2, h3.kept hg hr⟩
/-- The blocks of S change, and new ones are made. -/
def Rest (S : List Nat) (N : Nat) (b : Nat) : Prop := b < N ∧ b ∉ S
theorem WI.rest {w1 W : World} {S : List Nat} {v : Value} {z : Int} (h : WI w1 v z) (hk : Keep (Rest S w1.heap.size) w1 W) (hS : ∀ g ∈ S, ∃ t cs, Blk w1 g t cs ∧ ∀ d : Int, Value.int .u32 d ∉ cs.toList) : WI W v z := by
  obtain ⟨s, A, n, c, rfl, hs, l, hr, h3⟩ := h
  refine ⟨s, A, n, c, rfl, hs, l, ?_, h3⟩
  rcases Nat.eq_zero_or_pos n with h0 | h0
  · subst h0; exact ⟨hr.1, fun h => absurd h (by omega)⟩
  · refine hk.rd hr (fun b hb => ?_)
    obtain ⟨ad, u, rfl, hu, hc⟩ := hr.at_ h0
    have hb' : ad.block = b := by simpa [blk] using hb
    have hlt := World.block_lt_of_cell? w1 _ hc
    rw [block_add] at hlt
    refine ⟨by omega, fun hm => ?_⟩
    obtain ⟨t, cs, hB, hn⟩ := hS b hm
    refine hr.apart hB (fun u hu => ?_) h0 hb
    unfold nv at hu
    obtain ⟨d, _, rfl⟩ := List.mem_map.1 hu
    exact hn _
theorem WI.far {w w' : World} {v : Value} {z : Int} {g : Nat} {t : TypeId} {cs : Array Value} (h : WI w v z) (hb : Blk w g t cs) (hne : ∀ d : Int, Value.int .u32 d ∉ cs.toList) (hc : Chg (fun b => b = g) w w') : WI w' v z := by
  obtain ⟨s, A, n, c, rfl, hs, l, hr, h3⟩ := h
  refine ⟨s, A, n, c, rfl, hs, l, hr.store hb (fun u hu => ?_) hc, h3⟩
  unfold nv at hu
  obtain ⟨d, _, rfl⟩ := List.mem_map.1 hu
  exact hne _
theorem KeepsOthers.of_chg1 {V V' : World} {g : Nat} {t : TypeId} {cs : Array Value} (hb : Blk V g t cs) (h : Chg (fun b => b = g) V V') : KeepsOthers V V' :=
  ⟨h.size, fun k o hk ho => h.heap hk (fun e => by
    subst e
    unfold Blk at hb
    rw [hb] at hk
    cases hk
    simp [Obj.isCells] at ho)⟩
theorem New.keepsO {W W' : World} (h : New W W') : KeepsOthers W W' := ⟨h.size, fun k o hk _ => h.heap hk (fun h => h)⟩
theorem own_cut0 {w : World} {base : Nat} {e : TypeId} {A : Option Addr} {n c : Nat} {xs : List Value} (h : w.ownsRow base e 1 (.slice A n c) n xs) : w.ownsRow base e 1 (.slice A 0 c) 0 [] := by
  refine ⟨rfl, ?_⟩
  rcases h.2 with ⟨hv, _⟩ | ⟨g, cap, cur, hv, h1, h2, h3, h4, h5, h6⟩
  · injection hv with a b c; subst a c; exact .inl ⟨rfl, rfl⟩
  · injection hv with a b c; subst a c
    exact .inr ⟨g, _, cur, rfl, h1, h2, Nat.zero_le _, h4, h5, by simp⟩
theorem wordsL_succ (seed : Int) (lab : List UInt8) (a : Int) (j d : Nat) (h : wordI seed lab (a + (j : Nat)) = (d : Int)) : wordsL seed lab a (j + 1) = wordsL seed lab a j ++ [d] := by
  unfold wordsL
  rw [List.range_succ, List.map_append]
  simp only [List.map_cons, List.map_nil]
  rw [h, Int.toNat_natCast]
theorem sub_mod_i {M N : Nat} : ((M : Int) - (M : Int) % (N : Int)) = ((M - M % N : Nat) : Int) := by
  rw [← Int.natCast_emod, Int.ofNat_sub (Nat.mod_le _ _)]

/-- What holds ahead of each word. -/
def BigI (seed : Int) (s : ByteArray) (i : Int) (k bd : Nat) (w w1 : World) (g8 g9 g10 g19 g20 : Nat) (pre : List Nat) (W : World) : Prop :=
  ∃ t j A c, pre.length = t * k + j ∧ j < k ∧ t < 64 ∧ (∀ u, u < t → ¬ tryN seed s.data.toList i k u < bd) ∧ Keep (Rest [g8, g9, g10, g19, g20] w1.heap.size) w1 W ∧
    Blk W g8 35 #[.bool false, .slice none 0 0] ∧ Blk W g9 3 #[.int .i64 0] ∧ Blk W g10 36 #[.int .i64 0] ∧ Blk W g19 3 #[.int .i64 (t : Int)] ∧ Blk W g20 66 #[.slice A j c] ∧
    W.ownsRow w1.heap.size 22 1 (.slice A j c) j (nv .u64 (wordsL seed s.data.toList (i + (t * k : Nat)) j)) ∧ Below w.heap.size w W ∧ w1.heap.size ≤ W.heap.size
/-- What holds where the number has been taken. -/
def BigX (seed : Int) (s : ByteArray) (i : Int) (k bd N : Nat) (w : World) (g8 g9 g10 : Nat) (c : Code) (_pre : List Nat) (W : World) : Prop :=
  c = .ret ∧ ∃ t sr Ar nr cr, Taken (tryN seed s.data.toList i k) bd t ∧ Blk W g8 35 #[.bool sr, .slice Ar nr cr] ∧ WI W (.agg #[.bool sr, .slice Ar nr cr]) ((tryN seed s.data.toList i k t % N : Nat) : Int) ∧
    Blk W g9 3 #[.int .i64 (i + (t * k : Nat) + (k : Int))] ∧ Blk W g10 36 #[.int .i64 0] ∧ Below w.heap.size w W

set_option maxRecDepth 100000 in
set_option maxHeartbeats 4000000 in
theorem big_ok (seed : Int) (s : ByteArray) (hs : s.size ≤ 1000000) (i : Int) (hi : 0 ≤ i ∧ i ≤ 100000000) (v : Value) (N k : Nat) (hk1 : 1 ≤ k) (hk : k ≤ 255) (hN1 : 1 ≤ N) (hN : N ≤ p64 k) (hl : ∀ j, j < k → p64 j < N) (w : World) (hv : WI w v (N : Int)) :
    Calls Tryz.prog 13 #[.int .u64 seed, .string s, .int .i64 i, v] w fun e w' => ∃ sr Ar nr cr t, e = .returned (.tuple #[.agg #[.bool sr, .slice Ar nr cr], .int .i64 (i + (t * k : Nat) + (k : Int)), .int .i64 0]) ∧
      Hid (Taken (tryN seed s.data.toList i k) (p64 k - p64 k % N) t ∧ WI w' (.agg #[.bool sr, .slice Ar nr cr]) ((tryN seed s.data.toList i k t % N : Nat) : Int) ∧ New w w') := by
  obtain ⟨s0, A0, n0, c0, rfl, hs0, hm0⟩ := hv
  have hv0 : WI w (.agg #[.bool s0, .slice A0 n0 c0]) (N : Int) := ⟨s0, A0, n0, c0, rfl, hs0, hm0⟩
  have HV := Lib.hid (And.intro hv0 (And.intro hN hl))
  obtain ⟨bd, hbd⟩ : ∃ bd, p64 k - p64 k % N = bd := ⟨_, rfl⟩
  rw [hbd]
  have HBD := Lib.hid hbd
  clear hs0 hm0 hv0 hN hl hbd
  refine (callsIn_wide (n := 10)).1 ?_
  refine callsIn_of_wp_marks Tryz.func13 rfl trivial ?_ rfl
  simp only [Tryz.ntmps13, List.size_toArray, List.length_cons, List.length_nil, Nat.reduceAdd, Nat.reduceSub, Array.replicate_succ, Array.replicate_zero, List.push_toArray, List.append_toArray, List.nil_append, List.cons_append]
  gi_wp2
  refine ⟨trivial, callsIn_wide.2 (Calls.new4 ?_)⟩
  intro W hb7 hb8 hb9 hb10 hn hz
  obtain ⟨g7, hg7⟩ : ∃ x, w.heap.size = x := ⟨_, rfl⟩
  obtain ⟨g8, hg8⟩ : ∃ x, w.heap.size + 1 = x := ⟨_, rfl⟩
  obtain ⟨g9, hg9⟩ : ∃ x, w.heap.size + 1 + 1 = x := ⟨_, rfl⟩
  obtain ⟨g10, hg10⟩ : ∃ x, w.heap.size + 1 + 1 + 1 = x := ⟨_, rfl⟩
  rw [hg7] at hb7
  rw [hg8] at hb8
  rw [hg9] at hb9
  rw [hg10] at hb10
  simp only [hg10]
  simp only [hg9]
  simp only [hg8]
  simp only [hg7]
  have hgs : w.heap.size ≤ g7 ∧ g7 < g8 ∧ g8 < g9 ∧ g9 < g10 ∧ g10 < W.heap.size := by omega
  have H1 := Lib.hid (And.intro hb7 (And.intro hb8 (And.intro hb9 (And.intro hb10 (And.intro (HV.out.1.new hn) (And.intro hn hgs))))))
  clear hb7 hb8 hb9 hb10 hn hz hg7 hg8 hg9 hg10 hgs
  refine (sign_any _ (N : Int) W H1.out.2.2.2.2.1).mono ?_
  rintro e w1 ⟨rfl, hn1⟩
  have hsg : cmpI (N : Int) 0 = 1 := cmpI_gt (by omega)
  rw [hsg]
  have hc0 := (H1.out.1.chg hn1 (fun h => h)).cell 0 (u := .bool s0) rfl
  have hc1 := (H1.out.1.chg hn1 (fun h => h)).cell 1 (u := .slice A0 n0 c0) rfl
  have HN1 := Lib.hid hn1
  clear hn1 hsg
  gi_wp2
  refine ⟨trivial, callsIn_wide.2 ?_⟩
  refine (parts_ok _ N k hk HV.out.2.1 HV.out.2.2 w1 (H1.out.2.2.2.2.1.new HN1.out)).mono ?_
  rintro e w2 ⟨s2, A2, n2, c2, rfl, H2⟩
  have hk0 : ((k : Int) == 0) = false := by simp; omega
  clear hc0 hc1
  have hn02 : New W ((w2.alloc (.cells #[.int .i64 (k : Int)] 3)).alloc (.cells #[.bool s2, .slice A2 n2 c2] 35)) := ((HN1.out.new H2.out.2).alloc _).alloc _
  have hc0 := (H1.out.1.chg hn02 (fun h => h)).cell 0 (u := .bool s0) rfl
  have hc1 := (H1.out.1.chg hn02 (fun h => h)).cell 1 (u := .slice A0 n0 c0) rfl
  clear hn02
  gi_wp2
  refine ⟨trivial, callsIn_wide.2 (Calls.new2 ?_)⟩
  clear hc0 hc1
  intro W3 hb11 hb12 hn3 hz3
  obtain ⟨g11, hg11⟩ : ∃ x, w2.heap.size = x := ⟨_, rfl⟩
  obtain ⟨g12, hg12⟩ : ∃ x, w2.heap.size + 1 = x := ⟨_, rfl⟩
  rw [hg11] at hb11
  rw [hg12] at hb12
  simp only [hg12]
  simp only [hg11]
  have hnW3 : New W W3 := HN1.out.new (H2.out.2.new hn3)
  have hgs3 : W.heap.size ≤ g11 ∧ g11 < g12 ∧ g12 < W3.heap.size := by have := HN1.out.size; have := H2.out.2.size; omega
  have H3 := Lib.hid (And.intro hb11 (And.intro hb12 (And.intro hnW3 (And.intro hgs3 (H2.out.1.new hn3)))))
  clear hb11 hb12 hn3 hz3 hg11 hg12 hnW3 hgs3 H2 HN1
  refine (wdiv_any _ _ ((p64 k : Nat) : Int) (N : Int) W3 H3.out.2.2.2.2 (H1.out.2.2.2.2.1.new H3.out.2.2.1) (top_big (p64_top hk) 900000 (by decide)) (top_big (Nat.lt_of_le_of_lt HV.out.2.1 (p64_top hk)) 900000 (by decide)) (by omega)).mono ?_
  rintro e w4 ⟨s4, A4, n4, c4, s5, A5, n5, c5, rfl, H4⟩
  have hn04 : New W3 ((w4.alloc (.cells #[.bool s4, .slice A4 n4 c4] 35)).alloc (.cells #[.bool s5, .slice A5 n5 c5] 35)) := (H4.out.2.2.alloc _).alloc _
  have hc0 := (H3.out.2.1.chg hn04 (fun h => h)).cell 0 (u := .bool s2) rfl
  have hc1 := (H3.out.2.1.chg hn04 (fun h => h)).cell 1 (u := .slice A2 n2 c2) rfl
  clear hn04
  gi_wp2
  refine ⟨trivial, callsIn_wide.2 (Calls.new2 ?_)⟩
  clear hc0 hc1
  intro W5 hb14 hb15 hn5 hz5
  obtain ⟨g14, hg14⟩ : ∃ x, w4.heap.size = x := ⟨_, rfl⟩
  obtain ⟨g15, hg15⟩ : ∃ x, w4.heap.size + 1 = x := ⟨_, rfl⟩
  simp only [hg15]
  simp only [hg14]
  have hnW5 : New W3 W5 := H4.out.2.2.new hn5
  have H5 := Lib.hid (And.intro hnW5 (And.intro (H4.out.2.1.new hn5) (H3.out.2.2.2.2.new hnW5)))
  clear hb14 hb15 hn5 hz5 hg14 hg15 hnW5 H4
  have hsub := wsub_any _ _ _ _ W5 H5.out.2.2 H5.out.2.1 (top_big (p64_top hk) 1000000 (by decide)) (by rw [← Int.natCast_emod]; exact top_big (Nat.lt_of_le_of_lt (Nat.mod_le _ _) (p64_top hk)) 1000000 (by decide))
  rw [sub_mod_i, HBD.out] at hsub
  have hbt : bd < topN := Nat.lt_of_le_of_lt (by rw [← HBD.out]; exact Nat.sub_le _ _) (p64_top hk)
  have hrg := rg_in (z := (bd : Int)) (by rw [Int.natAbs_natCast]; exact hbt)
  rw [hrg.1, hrg.2] at hsub
  have HSUB := Lib.hid hsub
  clear hsub hbt hrg
  refine HSUB.out.mono ?_
  rintro e w6 ⟨s6, A6, n6, c6, rfl, H6⟩
  clear HSUB
  gi_wp2
  refine ⟨trivial, callsIn_wide.2 (Calls.new3 ?_)⟩
  intro W7 hb17 hb19 hb20 hn7 hz7
  obtain ⟨g17, hg17⟩ : ∃ x, w6.heap.size = x := ⟨_, rfl⟩
  obtain ⟨g19, hg19⟩ : ∃ x, w6.heap.size + 1 = x := ⟨_, rfl⟩
  obtain ⟨g20, hg20⟩ : ∃ x, w6.heap.size + 1 + 1 = x := ⟨_, rfl⟩
  rw [hg17] at hb17
  rw [hg19] at hb19
  rw [hg20] at hb20
  simp only [hg20]
  simp only [hg19]
  simp only [hg17]
  refine (stream_any seed s i W7).mono ?_
  rintro e w8 ⟨rfl, hs1, hs2, hs3, hn8, hz8⟩
  obtain ⟨B, hB⟩ : ∃ B, W7.heap.size = B := ⟨_, rfl⟩
  rw [hB] at hs1 hs2 hs3 hz8 ⊢
  have hn38 : New W3 w8 := H5.out.1.new (H6.out.2.new (hn7.new hn8))
  have hn08 : New W w8 := H3.out.2.2.1.new hn38
  have hgs8 : g12 < g17 ∧ g17 < g19 ∧ g19 < g20 ∧ g20 < B ∧ B + 3 = w8.heap.size := by
    have := H5.out.1.size; have := H6.out.2.size; have := H3.out.2.2.2.1; omega
  have H8 := Lib.hid (And.intro (H1.out.1.chg hn08 (fun h => h)) (And.intro (H1.out.2.1.chg hn08 (fun h => h)) (And.intro (H1.out.2.2.1.chg hn08 (fun h => h)) (And.intro (H1.out.2.2.2.1.chg hn08 (fun h => h)) (And.intro (H3.out.1.chg hn38 (fun h => h)) (And.intro (hb17.chg hn8 (fun h => h)) (And.intro (hb19.chg hn8 (fun h => h)) (hb20.chg hn8 (fun h => h)))))))))
  have HM := Lib.hid (And.intro (H1.out.2.2.2.2.1.new hn08) (H6.out.1.new (hn7.new hn8)))
  have HG := Lib.hid (And.intro H1.out.2.2.2.2.2.2 (And.intro H3.out.2.2.2.1 hgs8))
  have HNW := Lib.hid (H1.out.2.2.2.2.2.1.new hn08)
  have HSQ := Lib.hid (And.intro hs1 (And.intro hs2 hs3))
  clear hb17 hb19 hb20 hn7 hz7 hg17 hg19 hg20 hs1 hs2 hs3 hn8 hz8 hB hn38 hn08 hgs8 H1 H3 H5 H6
  gi_wp2
  have hSS : ∀ g ∈ [g8, g9, g10, g19, g20], ∃ t cs, Blk w8 g t cs ∧ ∀ d : Int, Value.int .u32 d ∉ cs.toList := by
    obtain ⟨h7, h8, h9, h10, h11, h17, h19, h20⟩ := H8.out
    intro g hg
    simp only [List.mem_cons, List.not_mem_nil, or_false] at hg
    rcases hg with rfl | rfl | rfl | rfl | rfl
    · exact ⟨_, _, h8, fun d h => by simp at h⟩
    · exact ⟨_, _, h9, fun d h => by simp at h⟩
    · exact ⟨_, _, h10, fun d h => by simp at h⟩
    · exact ⟨_, _, h19, fun d h => by simp at h⟩
    · exact ⟨_, _, h20, fun d h => by simp at h⟩
  have HSS := Lib.hid hSS
  have hI := Lib.hid hi
  clear hSS
  refine wpIn_rangeB rfl (by omega) (gf := 60) rfl trivial (enters_of Tryz.func60 (by kernel_rfl) rfl)
    (stream_seq 9 (by omega) _ seed s hs i ⟨hI.out.1, by have := hI.out.2; omega⟩ 20000 (by omega) w8 HSQ.out.1 HSQ.out.2.1 HSQ.out.2.2) (fun h h' => Keep.trans h h') ?kb (fun _ => rfl) (fun _ _ => Stab.const _ _) (fun _ => Stab.const _ _) (fun _ => Stab.const _ _)
    (BigI seed s i k bd w w8 g8 g9 g10 g19 g20)
    ?hIB
    (BigX seed s i k bd N w g8 g9 g10) ?hI ?hIx
    ?h0 ?a1 ?assign ?body ?done ?stop
  case assign =>
    intro l x W K hK
    unfold strE
    gi_wp2
    exact hK
  case hIB =>
    rintro pre W ⟨t, j, A, c, h1, h2, h3, _⟩
    have : t * k ≤ 63 * 255 := Nat.mul_le_mul (by omega) hk
    show pre.length < 20000
    omega
  case h0 =>
    obtain ⟨h7, h8, h9, h10, h11, h17, h19, h20⟩ := H8.out
    exact ⟨0, 0, none, 0, by simp, by omega, by omega, fun u hu => by omega, Keep.refl _ _, h8, h9, h10, h19, h20, World.ownsRow_nil w8 w8.heap.size _ _, New.below HNW.out, Nat.le_refl _⟩
  case kb =>
    intro W l o o' hl ho hoc b hb
    refine World.putObj_heap_other ?_
    have := HG.out
    rcases hb with rfl | rfl | rfl <;> omega
  case hI =>
    rintro pre W W' row ⟨t, j, A, c, q1, q2, q3, q4, q5, q6, q7, q8, q9, q10, q11, q12, q13⟩ hg hr
    refine ⟨t, j, A, c, q1, q2, q3, q4, ?_, blk_kept q6 hg (fun r e => (hr r e).2), blk_kept q7 hg (fun r e => (hr r e).2), blk_kept q8 hg (fun r e => (hr r e).2), blk_kept q9 hg (fun r e => (hr r e).2), blk_kept q10 hg (fun r e => (hr r e).2), row_kept q11 hg (fun r e => (hr r e).2), q12.grown hg q12.size (fun b e => by have := (hr b e).1; have := HNW.out.size; omega), Nat.le_trans q13 hg.size⟩
    intro b hb
    exact (hg.block b (Nat.lt_of_lt_of_le hb.1 q13) (fun e => by have := (hr b e.symm).1; have := hb.1; omega)).trans (q5 b hb)
  case hIx =>
    rintro c pre W W' row ⟨q1, t, sr, Ar, nr, cr, q2, q3, q4, q5, q6, q7⟩ hg hr
    exact ⟨q1, t, sr, Ar, nr, cr, q2, blk_kept q3 hg (fun r e => (hr r e).2), q4.kept hg (fun r e => (hr r e).2), blk_kept q5 hg (fun r e => (hr r e).2), blk_kept q6 hg (fun r e => (hr r e).2), q7.grown hg q7.size (fun b e => by have := (hr b e).1; have := HNW.out.size; omega)⟩
  case done =>
    rintro D xs W hD hF
    exact hF.elim
  case stop =>
    rintro D c pre W hD _ ⟨rfl, t, sr, Ar, nr, cr, ht, hb8, hwi, hb9, hb10, hB2⟩ hK
    have hd0 := hb8.cell 0 rfl
    have hd1 := hb8.cell 1 rfl
    have hd2 := hb9.cell 0 rfl
    have hd3 := hb10.cell 0 rfl
    have HX := Lib.hid (And.intro ht (And.intro hb8 (And.intro hwi (And.intro hb9 (And.intro hb10 (And.intro hB2 hK))))))
    clear ht hb8 hwi hb9 hb10 hB2 hK
    gi_wp2
    obtain ⟨ht, hb8, hwi, hb9, hb10, hB2, hK⟩ := HX.out
    refine ⟨by simp, .inl ⟨_, _, rfl, run_takeDeferred hK, ?_⟩⟩
    have hst : Stab 0 (fun V => Blk V g8 35 #[.bool sr, .slice Ar nr cr] ∧ Blk V g9 3 #[.int .i64 (i + (t * k : Nat) + (k : Int))] ∧ Blk V g10 36 #[.int .i64 0] ∧ WI V (.agg #[.bool sr, .slice Ar nr cr]) ((tryN seed s.data.toList i k t % N : Nat) : Int)) :=
      Stab.and (Stab.blk _ _ _ _) (Stab.and (Stab.blk _ _ _ _) (Stab.and (Stab.blk _ _ _ _) (fun _ _ _ h hg hr => h.kept hg (fun r e => (hr r e).2))))
    have hfin := hst.put (W := W) (l := D) (.deferred none) ⟨hb8, hb9, hb10, hwi⟩ (Nat.zero_le _) hK rfl
    refine ⟨_, res_ccc rfl _ rfl (aggInt.load hfin.1) rfl (flatInt.load hfin.2.1) rfl (flatErr.load hfin.2.2.1), sr, Ar, nr, cr, t, rfl, ht, hfin.2.2.2, New.of_below (hB2.trans (belowK_b (w := w) (Nat.le_refl _) _ D _ _ (by have := HNW.out.size; omega) hK rfl rfl))⟩
  case body =>
    rintro l' pre x W ⟨t, j, A, c, q1, q2, q3, q4, q5, q6, q7, q8, q9, q10, q11, q12, q13⟩ rfl
    obtain ⟨q, hq⟩ : ∃ q, pre.length = q := ⟨_, rfl⟩
    have hqb : q < 20000 := by
      have : t * k ≤ 63 * 255 := Nat.mul_le_mul (by omega) hk
      omega
    rw [hq] at q1 ⊢
    have hwr := word_range seed s.data.toList (i + q)
    obtain ⟨d, hd⟩ : ∃ d : Nat, wordI seed s.data.toList (i + q) = (d : Int) := ⟨(wordI seed s.data.toList (i + q)).toNat, (Int.toNat_of_nonneg hwr.1).symm⟩
    rw [hd] at hwr ⊢
    have hdb : d < 18446744073709551616 := by have := hwr.2; omega
    have hc20 := q10.cell 0 (u := .slice A j c) rfl
    have hf20 := q10.frozen 0
    have HK11 := Lib.hid H8.out.2.2.2.2.1
    have hrest : ∀ b, b < w8.heap.size → b ∉ [g8, g9, g10, g19, g20] → W.heap[b]? = w8.heap[b]? := fun b h1 h2 => q5 b ⟨h1, h2⟩
    have hb11 : Blk W g11 3 #[.int .i64 (k : Int)] := (hrest g11 (by have := HG.out; omega) (by have := HG.out; simp; omega)).trans HK11.out
    have HQ := Lib.hid (And.intro q4 (And.intro q5 (And.intro q6 (And.intro q7 (And.intro q8 (And.intro q9 (And.intro q10 (And.intro q12 (And.intro hb11 (And.intro hq (And.intro hd q1)))))))))))
    have HO := Lib.hid q11
    have hsz := q13
    have hi1 := hI.out.1
    have hi2 := hI.out.2
    have hg20 : g20 < w8.heap.size := by have := HG.out; omega
    have hneO : ∀ b, blk A = some b → w8.heap.size ≤ b := fun b hb => (own_blk_le HO.out hb).1
    have HNE := Lib.hid hneO
    have hk11 := hb11.cell 0 (u := .int .i64 (k : Int)) rfl
    have HK := Lib.hid hk11
    clear q4 q5 q6 q7 q8 q9 q10 q11 q12 hb11 hq hd q1 hwr hi hrest hneO HK11 hk11 hk0
    have hrl : ∀ V : World, Rd (V.alloc (.cells #[.int .u64 (d : Int)] 22)) (some ⟨V.heap.size, 0, none⟩) 1 (nv .u64 [d]) := fun V => Rd.lit (nv .u64 [d]) rfl
    have HRL := Lib.hid hrl
    clear hrl
    have hg11 : g11 < w8.heap.size := by have := HG.out; omega
    have n1 : ¬ g11 = g20 := by have := HG.out; omega
    have n2 : ¬ g20 = g11 := by omega
    have fin3 : ∀ A' c' w2, w2.ownsRow w8.heap.size 22 1 (.slice A' (j + 1) c') (j + 1) (nv .u64 (wordsL seed s.data.toList (i + (t * k : Nat)) j) ++ nv .u64 [d]) → (W.alloc (.cells #[.int .u64 (d : Int)] 22)).grownBy w2 (blk A) →
        (∀ b, b < w8.heap.size → b ≠ g20 → (w2.setCell ⟨g20, 0, none⟩ (.slice A' (j + 1) c')).heap[b]? = W.heap[b]?) ∧ Blk (w2.setCell ⟨g20, 0, none⟩ (.slice A' (j + 1) c')) g20 66 #[.slice A' (j + 1) c'] ∧
        (w2.setCell ⟨g20, 0, none⟩ (.slice A' (j + 1) c')).ownsRow w8.heap.size 22 1 (.slice A' (j + 1) c') (j + 1) (nv .u64 (wordsL seed s.data.toList (i + (t * k : Nat)) (j + 1))) ∧
        KeepsOthers W (w2.setCell ⟨g20, 0, none⟩ (.slice A' (j + 1) c')) ∧ Below w.heap.size w (w2.setCell ⟨g20, 0, none⟩ (.slice A' (j + 1) c')) ∧ W.heap.size ≤ (w2.setCell ⟨g20, 0, none⟩ (.slice A' (j + 1) c')).heap.size := by
      intro A' c' w2 hown2 hg2
      obtain ⟨q4, q5, q6, q7, q8, q9, q10, q12, hb11, hq, hd, q1⟩ := HQ.out
      have hchg : Chg (fun b => b = g20 ∨ blk A = some b) W (w2.setCell ⟨g20, 0, none⟩ (.slice A' (j + 1) c')) := (((Chg.refl _ W).alloc _).grown hg2 (fun k hk _ => .inr hk)).setCell (fun _ => .inl rfl) _
      refine ⟨fun b h1 h2 => hchg.block b (by omega) (fun h => ?_), ?_, ?_, ?_, ?_, hchg.size⟩
      · rcases h with h | h
        · exact h2 h
        · have := HNE.out b h; omega
      · exact ((q10.alloc (.cells #[.int .u64 (d : Int)] 22)).grown hg2 (fun e => by have := HNE.out _ e; omega)).set_ 0 _
      · rw [wordsL_succ seed s.data.toList _ j d (by rw [← hd]; congr 1; rw [q1]; omega), nv_append]
        exact own_chg hown2 ((Chg.refl (fun b => b = g20) w2).setCell (p := ⟨g20, 0, none⟩) (fun _ => rfl) _) (fun b hb e => by have := (own_blk_le hown2 hb).1; omega)
      · exact (KeepsOthers.alloc _ _).trans ((KeepsOthers.of_app (own_chg HO.out ((Chg.refl (fun _ => False) _).alloc _) (fun _ _ h => h)) hg2).trans (KeepsOthers.setCell _ _ _))
      · exact q12.trans (hchg.below (fun b h => by
          have := HG.out
          rcases h with h | h
          · omega
          · have := HNE.out b h; have := HNW.out.size; omega) q12.size)
    have F3 := Lib.hid fin3
    clear fin3
    by_cases hjk : j + 1 < k
    · have hjk1 : ((j + 1 : Nat) : Int) < (k : Int) := by omega
      have hjk2 : (j : Int) + 1 < (k : Int) := by omega
      gi_wp2_with (gi_at_builtin; refine wpListIn_app elemWords rfl _ _ rfl rfl (own_chg HO.out ((Chg.refl (fun _ => False) _).alloc _) (fun _ _ h => h)) rfl (HRL.out _) (nv_one _) (by simp only [maxLen]; omega) (by omega) (by simp; omega) ?_; intro A' c' w2 hown2 hg2 hat2; have hb20 := ((HQ.out.2.2.2.2.2.2.1).alloc (.cells #[.int .u64 (d : Int)] 22)).grown hg2 (fun e => by have := HNE.out _ e; omega); have hcc2 := hb20.cell 0 rfl; have hff2 := hb20.frozen 0; have hk2 := (((HQ.out.2.2.2.2.2.2.2.2.1).alloc (.cells #[.int .u64 (d : Int)] 22)).grown hg2 (fun e => by have := HNE.out _ e; omega)).cell 0 (u := .int .i64 (k : Int)) rfl; have hk3 := ((((((HQ.out.2.2.2.2.2.2.2.2.1).alloc (.cells #[.int .u64 (d : Int)] 22)).grown hg2 (fun e => by have := HNE.out _ e; omega))).far (p := ⟨g20, 0, none⟩) (by dsimp only; omega) (.slice A' (j + 1) c')).alloc (.cells #[.bool false, .slice none 0 0] 35)).cell 0 (u := .int .i64 (k : Int)) rfl; have HA := Lib.hid (And.intro hown2 (And.intro hg2 hb20)); clear hown2 hg2 hat2 hb20)
      obtain ⟨hlow, hb20, hown3, hko, hbel, hsz3⟩ := F3.out _ _ _ HA.out.1 HA.out.2.1
      obtain ⟨q4, q5, q6, q7, q8, q9, q10, q12, hb11, hq, hd, q1⟩ := HQ.out
      have hg := HG.out
      refine ⟨hko.from _, ?_, t, j + 1, A', c', ?_, hjk, q3, q4, ?_, (hlow g8 (by omega) (by omega)).trans q6, (hlow g9 (by omega) (by omega)).trans q7, (hlow g10 (by omega) (by omega)).trans q8, (hlow g19 (by omega) (by omega)).trans q9, hb20, hown3, hbel, by omega⟩
      · intro b hb
        refine hlow b ?_ ?_ <;> rcases hb with rfl | rfl | rfl <;> omega
      · rw [List.length_append, hq]; simp; omega
      · intro b hb
        exact (hlow b hb.1 (fun e => hb.2 (by simp [e]))).trans (q5 b hb)
    · have hjk1 : decide (((j + 1 : Nat) : Int) < (k : Int)) = false := by simp; omega
      have hjk2 : decide ((j : Int) + 1 < (k : Int)) = false := by simp; omega
      gi_wp2_with (gi_at_builtin; refine wpListIn_app elemWords rfl _ _ rfl rfl (own_chg HO.out ((Chg.refl (fun _ => False) _).alloc _) (fun _ _ h => h)) rfl (HRL.out _) (nv_one _) (by simp only [maxLen]; omega) (by omega) (by simp; omega) ?_; intro A' c' w2 hown2 hg2 hat2; have hb20 := ((HQ.out.2.2.2.2.2.2.1).alloc (.cells #[.int .u64 (d : Int)] 22)).grown hg2 (fun e => by have := HNE.out _ e; omega); have hcc2 := hb20.cell 0 rfl; have hff2 := hb20.frozen 0; have hk2 := (((HQ.out.2.2.2.2.2.2.2.2.1).alloc (.cells #[.int .u64 (d : Int)] 22)).grown hg2 (fun e => by have := HNE.out _ e; omega)).cell 0 (u := .int .i64 (k : Int)) rfl; have hk3 := ((((((HQ.out.2.2.2.2.2.2.2.2.1).alloc (.cells #[.int .u64 (d : Int)] 22)).grown hg2 (fun e => by have := HNE.out _ e; omega))).far (p := ⟨g20, 0, none⟩) (by dsimp only; omega) (.slice A' (j + 1) c')).alloc (.cells #[.bool false, .slice none 0 0] 35)).cell 0 (u := .int .i64 (k : Int)) rfl; have HA := Lib.hid (And.intro hown2 (And.intro hg2 hb20)); clear hown2 hg2 hat2 hb20)
      have hjk' : j + 1 = k := by omega
      obtain ⟨hlow, hb20, hown3, hko, hbel, hsz3⟩ := F3.out _ _ _ HA.out.1 HA.out.2.1
      clear hcc2 hff2 hk2 hk3 HA F3 HO HRL hc20 hf20
      have hzz : (w2.setCell ⟨g20, 0, none⟩ (.slice A' (j + 1) c')).heap.size = w2.heap.size := by simp [World.setCell]
      generalize w2.setCell ⟨g20, 0, none⟩ (.slice A' (j + 1) c') = V3 at *
      rw [hjk'] at hb20 hown3
      obtain ⟨L, hL⟩ : ∃ L, wordsL seed s.data.toList (i + (t * k : Nat)) k = L := ⟨_, rfl⟩
      have hLl : L.length = k := by rw [← hL]; exact wordsL_len _ _ _ _
      have hLd : Digs 18446744073709551616 L := by rw [← hL]; exact wordsL_digs _ _ _ _
      have hLt : val 18446744073709551616 L = tryN seed s.data.toList i k t := by rw [← hL]; rfl
      rw [hL] at hown3
      obtain ⟨gA, rfl, hgA, hgA2, _⟩ := own_form hown3 (by omega)
      obtain ⟨g23, hg23'⟩ : ∃ x, w2.heap.size = x := ⟨_, rfl⟩
      have hg23 : V3.heap.size = g23 := hzz.trans hg23'
      have hb23 := Blk.new V3 35 #[.bool false, .slice none 0 0]
      rw [hg23] at hb23 hgA2
      simp only [hg23']
      have hn4 : New V3 (V3.alloc (.cells #[.bool false, .slice none 0 0] 35)) := (Chg.refl _ _).alloc _
      generalize V3.alloc (.cells #[.bool false, .slice none 0 0] 35) = V4 at hb23 hn4 ⊢
      have hgs : w8.heap.size ≤ gA ∧ gA < g23 ∧ w8.heap.size ≤ g23 := by omega
      have H4 := Lib.hid (And.intro hb23 (And.intro (hb20.chg hn4 (fun h => h)) (And.intro (own_chg hown3 hn4 (fun _ _ h => h)) hn4)))
      have H3 := Lib.hid (And.intro hlow (And.intro hko (And.intro hbel (And.intro hsz3 (And.intro hb20 hown3)))))
      have HL := Lib.hid (And.intro hLl (And.intro hLd hLt))
      clear hlow hb20 hown3 hko hbel hsz3 hL hLl hLd hLt hb23 hn4 hg23 hg23' hzz hgA hgA2 hjk1 hjk2 hjk'
      gi_loopw [24] (fun v wr => ∃ e : Nat, ∃ sx Ax nx cx, v = .int .i64 ((e : Int) - 1) ∧ e ≤ k ∧ Hid (Blk wr g23 35 #[.bool sx, .slice Ax nx cx] ∧ WI wr (.agg #[.bool sx, .slice Ax nx cx]) ((val 18446744073709551616 (L.drop e) : Nat) : Int) ∧ Chg (fun b => b = g23) V4 wr)) (fun v _ => (intOf v + 1).toNat)
      case atStart =>
        refine ⟨k, false, none, 0, 0, rfl, Nat.le_refl _, H4.out.1, ?_, Chg.refl _ _⟩
        rw [List.drop_of_length_le (by rw [HL.out.1]; exact Nat.le_refl _)]
        exact WI.zero _
      case round =>
        obtain ⟨e, sx, Ax, nx, cx, rfl, he, HE⟩ := hrel
        obtain ⟨wo, rfl⟩ : ∃ wo : World, wo = wr := ⟨_, rfl⟩
        have x0 := HE.out.1.cell 0 (u := .bool sx) rfl
        have x1 := HE.out.1.cell 1 (u := .slice Ax nx cx) rfl
        have hb20 := H4.out.2.1.chg HE.out.2.2 (show g20 ≠ g23 by omega)
        have y0 := hb20.cell 0 (u := .slice (some ⟨gA, 0, none⟩) k c') rfl
        by_cases h0 : e = 0
        · subst h0
          obtain ⟨q4, q5, q6, q7, q8, q9, q10, q12, hb11, hq, hd, q1⟩ := HQ.out
          obtain ⟨hlow, hko, hbel, hsz3, hb20', hown3⟩ := H3.out
          have hg := HG.out
          have hb19 : Blk V3 g19 3 #[.int .i64 (t : Int)] := (hlow g19 (by omega) (by omega)).trans q9
          have hb19' := (hb19.chg H4.out.2.2.2 (fun h => h)).chg HE.out.2.2 (show g19 ≠ g23 by omega)
          have hfz19 := hb19'.frozen 0
          have hc19 := hb19'.cell 0 (u := .int .i64 (t : Int)) rfl
          have hfz20 := hb20.frozen 0
          have hup := run_upto (P := Tryz.prog) elemWords .i64 (some ⟨gA, 0, none⟩) k c' 0 0 rfl (Nat.zero_le _)
          have hlw : ∀ b, b < w8.heap.size → b ≠ g20 → b ≠ g19 → ((wo.setCell ⟨g20, 0, none⟩ (.slice (some ⟨gA, 0, none⟩) 0 c')).setCell ⟨g19, 0, none⟩ (.int .i64 ((t : Int) + 1))).heap[b]? = W.heap[b]? := fun b h1 h2 h3 => by
            rw [Below.heap_setCell _ ⟨g19, 0, none⟩ _ b h3, Below.heap_setCell _ ⟨g20, 0, none⟩ _ b h2, HE.out.2.2.block b (Nat.lt_of_lt_of_le h1 (by have := H4.out.2.2.2.size; omega)) (by omega), H4.out.2.2.2.block b (by omega) (fun h => h)]
            exact hlow b h1 h2
          have hch0 : Chg (fun b => b = g20) wo (wo.setCell ⟨g20, 0, none⟩ (.slice (some ⟨gA, 0, none⟩) 0 c')) := (Chg.refl (fun b => b = g20) wo).setCell (p := ⟨g20, 0, none⟩) (fun _ => rfl) _
          have hb19'' := hb19'.far (p := ⟨g20, 0, none⟩) (by dsimp only; omega) (.slice (some ⟨gA, 0, none⟩) 0 c')
          have hch1 : Chg (fun b => b = g19) (wo.setCell ⟨g20, 0, none⟩ (.slice (some ⟨gA, 0, none⟩) 0 c')) ((wo.setCell ⟨g20, 0, none⟩ (.slice (some ⟨gA, 0, none⟩) 0 c')).setCell ⟨g19, 0, none⟩ (.int .i64 ((t : Int) + 1))) := (Chg.refl (fun b => b = g19) _).setCell (p := ⟨g19, 0, none⟩) (fun _ => rfl) _
          have hwx := HE.out.2.1
          rw [List.drop_zero, HL.out.2.2] at hwx
          have hfin : Blk ((wo.setCell ⟨g20, 0, none⟩ (.slice (some ⟨gA, 0, none⟩) 0 c')).setCell ⟨g19, 0, none⟩ (.int .i64 ((t : Int) + 1))) g19 3 #[.int .i64 ((t : Int) + 1)] ∧ Blk ((wo.setCell ⟨g20, 0, none⟩ (.slice (some ⟨gA, 0, none⟩) 0 c')).setCell ⟨g19, 0, none⟩ (.int .i64 ((t : Int) + 1))) g20 66 #[.slice (some ⟨gA, 0, none⟩) 0 c'] ∧ Blk ((wo.setCell ⟨g20, 0, none⟩ (.slice (some ⟨gA, 0, none⟩) 0 c')).setCell ⟨g19, 0, none⟩ (.int .i64 ((t : Int) + 1))) g23 35 #[.bool sx, .slice Ax nx cx] ∧
              WI ((wo.setCell ⟨g20, 0, none⟩ (.slice (some ⟨gA, 0, none⟩) 0 c')).setCell ⟨g19, 0, none⟩ (.int .i64 ((t : Int) + 1))) (.agg #[.bool sx, .slice Ax nx cx]) ((tryN seed s.data.toList i k t : Nat) : Int) ∧ ((wo.setCell ⟨g20, 0, none⟩ (.slice (some ⟨gA, 0, none⟩) 0 c')).setCell ⟨g19, 0, none⟩ (.int .i64 ((t : Int) + 1))).ownsRow w8.heap.size 22 1 (.slice (some ⟨gA, 0, none⟩) 0 c') 0 [] ∧
              KeepsOthers W ((wo.setCell ⟨g20, 0, none⟩ (.slice (some ⟨gA, 0, none⟩) 0 c')).setCell ⟨g19, 0, none⟩ (.int .i64 ((t : Int) + 1))) ∧ Below w.heap.size w ((wo.setCell ⟨g20, 0, none⟩ (.slice (some ⟨gA, 0, none⟩) 0 c')).setCell ⟨g19, 0, none⟩ (.int .i64 ((t : Int) + 1))) ∧ w8.heap.size ≤ ((wo.setCell ⟨g20, 0, none⟩ (.slice (some ⟨gA, 0, none⟩) 0 c')).setCell ⟨g19, 0, none⟩ (.int .i64 ((t : Int) + 1))).heap.size ∧
              (∀ b, b < w8.heap.size → b ≠ g20 → b ≠ g19 → ((wo.setCell ⟨g20, 0, none⟩ (.slice (some ⟨gA, 0, none⟩) 0 c')).setCell ⟨g19, 0, none⟩ (.int .i64 ((t : Int) + 1))).heap[b]? = W.heap[b]?) := by
            refine ⟨hb19''.set_ 0 _, (hb20.set_ 0 _).chg hch1 (show g20 ≠ g19 by omega), (HE.out.1.chg hch0 (show g23 ≠ g20 by omega)).chg hch1 (show g23 ≠ g19 by omega), (hwx.far hb20 (fun d h => by simp at h) hch0).far hb19'' (fun d h => by simp at h) hch1, ?_, ?_, ?_, ?_, hlw⟩
            · exact own_chg (own_chg (own_chg (own_cut0 H4.out.2.2.1) HE.out.2.2 (fun b hb e => by simp [blk] at hb; omega)) hch0 (fun b hb e => by simp [blk] at hb; omega)) hch1 (fun b hb e => by simp [blk] at hb; omega)
            · exact hko.trans ((New.keepsO H4.out.2.2.2).trans ((KeepsOthers.of_chg1 H4.out.1 HE.out.2.2).trans ((KeepsOthers.setCell _ _ _).trans (KeepsOthers.setCell _ _ _))))
            · have hc1 := ((Chg.new (Chg.refl (fun b => w8.heap.size ≤ b ∨ b = g20 ∨ b = g19) V3) H4.out.2.2.2).trans HE.out.2.2 (fun b _ e => .inl (by omega))).trans hch0 (fun b _ e => .inr (.inl e))
              have hc2 := hc1.trans hch1 (fun b _ e => .inr (.inr e))
              exact hbel.trans (hc2.below (fun b h => by have := HNW.out.size; omega) hbel.size)
            · have h1 := hch0.size
              have h2 := hch1.size
              have h3 := HE.out.2.2.size
              have h4 := H4.out.2.2.2.size
              omega
          have m1 : ¬ g23 = g20 := by omega
          have m2 : ¬ g23 = g19 := by omega
          have m3 : ¬ g17 = g20 := by omega
          have m4 : ¬ g17 = g19 := by omega
          have m5 : ¬ g19 = g20 := by omega
          have m6 : ¬ g20 = g19 := by omega
          have hw17 : Blk W g17 35 #[.bool s6, .slice A6 n6 c6] := (q5 g17 ⟨by omega, by simp; omega⟩).trans H8.out.2.2.2.2.2.1
          have hb17 : Blk wo g17 35 #[.bool s6, .slice A6 n6 c6] := (((show Blk V3 g17 35 #[.bool s6, .slice A6 n6 c6] from (hlow g17 (by omega) (by omega)).trans hw17).chg H4.out.2.2.2 (fun h => h)).chg HE.out.2.2 (show g17 ≠ g23 by omega))
          have k0 := hb17.cell 0 (u := .bool s6) rfl
          have k1 := hb17.cell 1 (u := .slice A6 n6 c6) rfl
          have ht64 : (t : Int) < 64 := by omega
          have H5 := Lib.hid hfin
          clear q4 q5 q6 q7 q8 q9 q10 q12 hb11 hq hd q1 hlow hko hbel hsz3 hb20' hown3 hg hb19 hb19' hlw hch0 hch1 hb19'' hwx hfin hw17 hb17 hb20 H3
          gi_wp2
          generalize (wo.setCell ⟨g20, 0, none⟩ (.slice (some ⟨gA, 0, none⟩) 0 c')).setCell ⟨g19, 0, none⟩ (.int .i64 ((t : Int) + 1)) = V5 at H5 ⊢
          clear x0 x1 y0 hfz19 hc19 hfz20 hup k0 k1 HE H4
          have hnl : WI V5 (.agg #[.bool s0, .slice A0 n0 c0]) (N : Int) ∧ WI V5 (.agg #[.bool s6, .slice A6 n6 c6]) (bd : Int) ∧ Blk V5 g7 35 #[.bool s0, .slice A0 n0 c0] ∧ Keep (Rest [g8, g9, g10, g19, g20] w8.heap.size) w8 V5 := by
            have hk5 : Keep (Rest [g8, g9, g10, g19, g20] w8.heap.size) w8 V5 := fun b hb => (H5.out.2.2.2.2.2.2.2.2 b hb.1 (fun e => hb.2 (by simp [e])) (fun e => hb.2 (by simp [e]))).trans (HQ.out.2.1 b hb)
            refine ⟨HM.out.1.rest hk5 HSS.out, HM.out.2.rest hk5 HSS.out, (hk5 g7 ⟨by have := HG.out; omega, by have := HG.out; simp; omega⟩).trans H8.out.1, hk5⟩
          have HNL := Lib.hid hnl
          clear hnl
          refine ⟨trivial, (CallsIn.inRound l' (callsIn_wide.2 (compare_any _ _ _ _ V5 H5.out.2.2.2.1 HNL.out.2.1))).mono ?_⟩
          rintro e w6' ⟨rfl, hn6⟩
          have HN6 := Lib.hid hn6
          clear hn6
          obtain ⟨X, hX⟩ : ∃ X, tryN seed s.data.toList i k t = X := ⟨_, rfl⟩
          rw [hX]
          have HX := Lib.hid hX
          have hcm : decide (cmpI (X : Int) (bd : Int) < 0) = decide (X < bd) := by
            unfold cmpI
            by_cases h : X < bd
            · rw [if_pos (by omega)]; simp [h]
            · rw [if_neg (by omega)]
              split <;> simp [h]
          generalize cmpI (X : Int) (bd : Int) = C at hcm ⊢
          have hb19 := H5.out.1.chg HN6.out (fun h => h)
          have hc19 := hb19.cell 0 (u := .int .i64 ((t : Int) + 1)) rfl
          have hb23 := H5.out.2.2.1.chg HN6.out (fun h => h)
          have x0 := hb23.cell 0 (u := .bool sx) rfl
          have x1 := hb23.cell 1 (u := .slice Ax nx cx) rfl
          have hb7 := HNL.out.2.2.1.chg HN6.out (fun h => h)
          have y0 := hb7.cell 0 (u := .bool s0) rfl
          have y1 := hb7.cell 1 (u := .slice A0 n0 c0) rfl
          clear hb19 hb23 hb7 hX
          by_cases hlt : X < bd
          · have HT : Hid (X < bd ∨ t = 63) := .inl hlt
            have hC : C < 0 := by simpa [hlt] using hcm
            clear hcm
            gi_wp2
            refine ⟨trivial, CallsIn.inRound l' (callsIn_wide.2 ?_)⟩
            have hwX := (H5.out.2.2.2.1.new HN6.out)
            rw [HX.out] at hwX
            have hXb : X < topN := by
              rw [← HX.out]
              have h1 := val_lt (wordsL_digs seed s.data.toList (i + (t * k : Nat)) k)
              rw [wordsL_len] at h1
              exact Nat.lt_trans h1 (p64_top hk)
            refine (wdiv_any _ _ _ _ w6' hwX (HNL.out.1.new HN6.out) (top_big hXb 900000 (by decide)) (top_big (Nat.lt_of_le_of_lt HV.out.2.1 (p64_top hk)) 900000 (by decide)) (by omega)).mono ?_
            rintro e w7 ⟨s7, A7, n7, c7, sr, Ar, nr, cr, rfl, H7⟩
            have hn57 : New V5 w7 := HN6.out.new H7.out.2.2
            have hg := HG.out
            have hl8 : ∀ b, b < w8.heap.size → b ≠ g20 → b ≠ g19 → w7.heap[b]? = W.heap[b]? := fun b h1 h2 h3 => (hn57.block b (by have := H5.out.2.2.2.2.2.2.2.1; omega) (fun h => h)).trans (H5.out.2.2.2.2.2.2.2.2 b h1 h2 h3)
            have b8 : Blk w7 g8 35 #[.bool false, .slice none 0 0] := (hl8 g8 (by omega) (by omega) (by omega)).trans HQ.out.2.2.1
            have b9 : Blk w7 g9 3 #[.int .i64 0] := (hl8 g9 (by omega) (by omega) (by omega)).trans HQ.out.2.2.2.1
            have b10 : Blk w7 g10 36 #[.int .i64 0] := (hl8 g10 (by omega) (by omega) (by omega)).trans HQ.out.2.2.2.2.1
            have hn77 : New w7 ((w7.alloc (.cells #[.bool s7, .slice A7 n7 c7] 35)).alloc (.cells #[.bool sr, .slice Ar nr cr] 35)) := ((Chg.refl _ w7).alloc _).alloc _
            have e8 := b8.chg hn77 (fun h => h)
            have e9 := b9.chg hn77 (fun h => h)
            have e10 := b10.chg hn77 (fun h => h)
            have u80 := e8.cell 0 (u := .bool false) rfl
            have u81 := e8.cell 1 (u := .slice none 0 0) rfl
            have u90 := e9.cell 0 (u := .int .i64 0) rfl
            have u100 := e10.cell 0 (u := .int .i64 0) rfl
            have v80 := e8.frozen 0
            have v81 := e8.frozen 1
            have v90 := e9.frozen 0
            have v100 := e10.frozen 0
            have n89 : ¬ g8 = g9 := by omega
            have n98 : ¬ g9 = g8 := by omega
            have n810 : ¬ g8 = g10 := by omega
            have n108 : ¬ g10 = g8 := by omega
            have n910 : ¬ g9 = g10 := by omega
            have n109 : ¬ g10 = g9 := by omega
            have l8 := e8.lt
            have l9 := e9.lt
            have l10 := e10.lt
            have HE7 := Lib.hid (And.intro e8 (And.intro e9 (And.intro e10 (And.intro (H7.out.2.1.new hn77) (And.intro hn77 hn57)))))
            clear x0 x1 y0 y1 hc19 hwX hXb hn57 hg hl8 b8 b9 b10 hn77 e8 e9 e10
            gi_wp2
            obtain ⟨e8, e9, e10, hwr, hn77, hn57⟩ := HE7.out
            generalize (w7.alloc (.cells #[.bool s7, .slice A7 n7 c7] 35)).alloc (.cells #[.bool sr, .slice Ar nr cr] 35) = V7 at *
            obtain ⟨q4, q5, q6, q7, q8, q9, q10, q12, hb11, hq, hd, q1⟩ := HQ.out
            have hg := HG.out
            have hwz := HNW.out.size
            have hch8 := Chg.at2 V7 g8 (.bool sr) (.slice Ar nr cr)
            have e9' := e9.chg hch8 n98
            have hch9 := Chg.at1 ((V7.setCell ⟨g8, 0, none⟩ (.bool sr)).setCell ⟨g8, 1, none⟩ (.slice Ar nr cr)) g9 (.int .i64 (i + (q : Int) + 1))
            have e10' := (e10.chg hch8 n108).chg hch9 n109
            have hch10 := Chg.at1 (((V7.setCell ⟨g8, 0, none⟩ (.bool sr)).setCell ⟨g8, 1, none⟩ (.slice Ar nr cr)).setCell ⟨g9, 0, none⟩ (.int .i64 (i + (q : Int) + 1))) g10 (.int .i64 0)
            have hnx : i + (q : Int) + 1 = i + ((t * k : Nat) : Int) + (k : Int) := by omega
            have hwf := ((hwr.far e8 (fun d h => by simp at h) hch8).far e9' (fun d h => by simp at h) hch9).far e10' (fun d h => by simp at h) hch10
            rw [← Int.natCast_emod, ← HX.out] at hwf
            refine ⟨(H5.out.2.2.2.2.2.1.trans ((New.keepsO (hn57.new hn77)).trans ((KeepsOthers.setCell _ _ _).trans ((KeepsOthers.setCell _ _ _).trans ((KeepsOthers.setCell _ _ _).trans (KeepsOthers.setCell _ _ _)))))).from _, rfl, t, sr, Ar, nr, cr, ⟨by omega, q4, by rw [HX.out]; exact HT.out⟩, ((e8.set2 _ _).chg hch9 n89).chg hch10 n810, hwf, ?_, e10'.set1 _, ?_⟩
            · rw [← hnx]
              exact (e9'.set1 _).chg hch10 n910
            · have hb5 := H5.out.2.2.2.2.2.2.1
              have hb7 := hb5.trans (Chg.below (hn57.new hn77) (fun _ hf => hf.elim) hb5.size)
              exact (((hb7.setCell (p := ⟨g8, 0, none⟩) (by simp; omega) _).setCell (p := ⟨g8, 1, none⟩) (by simp; omega) _).setCell (p := ⟨g9, 0, none⟩) (by simp; omega) _).setCell (p := ⟨g10, 0, none⟩) (by simp; omega) _
          · have hC : decide (C < 0) = false := by rw [hcm]; simpa using hlt
            clear hcm
            by_cases h63 : t = 63
            · have he64 : ((t : Int) + 1 == 64) = true := by simp; omega
              have HT : Hid (X < bd ∨ t = 63) := .inr h63
              clear h63
              gi_wp2
              refine ⟨trivial, CallsIn.inRound l' (callsIn_wide.2 ?_)⟩
              have hwX := (H5.out.2.2.2.1.new HN6.out)
              rw [HX.out] at hwX
              have hXb : X < topN := by
                rw [← HX.out]
                have h1 := val_lt (wordsL_digs seed s.data.toList (i + (t * k : Nat)) k)
                rw [wordsL_len] at h1
                exact Nat.lt_trans h1 (p64_top hk)
              refine (wdiv_any _ _ _ _ w6' hwX (HNL.out.1.new HN6.out) (top_big hXb 900000 (by decide)) (top_big (Nat.lt_of_le_of_lt HV.out.2.1 (p64_top hk)) 900000 (by decide)) (by omega)).mono ?_
              rintro e w7 ⟨s7, A7, n7, c7, sr, Ar, nr, cr, rfl, H7⟩
              have hn57 : New V5 w7 := HN6.out.new H7.out.2.2
              have hg := HG.out
              have hl8 : ∀ b, b < w8.heap.size → b ≠ g20 → b ≠ g19 → w7.heap[b]? = W.heap[b]? := fun b h1 h2 h3 => (hn57.block b (by have := H5.out.2.2.2.2.2.2.2.1; omega) (fun h => h)).trans (H5.out.2.2.2.2.2.2.2.2 b h1 h2 h3)
              have b8 : Blk w7 g8 35 #[.bool false, .slice none 0 0] := (hl8 g8 (by omega) (by omega) (by omega)).trans HQ.out.2.2.1
              have b9 : Blk w7 g9 3 #[.int .i64 0] := (hl8 g9 (by omega) (by omega) (by omega)).trans HQ.out.2.2.2.1
              have b10 : Blk w7 g10 36 #[.int .i64 0] := (hl8 g10 (by omega) (by omega) (by omega)).trans HQ.out.2.2.2.2.1
              have hn77 : New w7 ((w7.alloc (.cells #[.bool s7, .slice A7 n7 c7] 35)).alloc (.cells #[.bool sr, .slice Ar nr cr] 35)) := ((Chg.refl _ w7).alloc _).alloc _
              have e8 := b8.chg hn77 (fun h => h)
              have e9 := b9.chg hn77 (fun h => h)
              have e10 := b10.chg hn77 (fun h => h)
              have u80 := e8.cell 0 (u := .bool false) rfl
              have u81 := e8.cell 1 (u := .slice none 0 0) rfl
              have u90 := e9.cell 0 (u := .int .i64 0) rfl
              have u100 := e10.cell 0 (u := .int .i64 0) rfl
              have v80 := e8.frozen 0
              have v81 := e8.frozen 1
              have v90 := e9.frozen 0
              have v100 := e10.frozen 0
              have n89 : ¬ g8 = g9 := by omega
              have n98 : ¬ g9 = g8 := by omega
              have n810 : ¬ g8 = g10 := by omega
              have n108 : ¬ g10 = g8 := by omega
              have n910 : ¬ g9 = g10 := by omega
              have n109 : ¬ g10 = g9 := by omega
              have l8 := e8.lt
              have l9 := e9.lt
              have l10 := e10.lt
              have HE7 := Lib.hid (And.intro e8 (And.intro e9 (And.intro e10 (And.intro (H7.out.2.1.new hn77) (And.intro hn77 hn57)))))
              clear x0 x1 y0 y1 hc19 hwX hXb hn57 hg hl8 b8 b9 b10 hn77 e8 e9 e10
              gi_wp2
              obtain ⟨e8, e9, e10, hwr, hn77, hn57⟩ := HE7.out
              generalize (w7.alloc (.cells #[.bool s7, .slice A7 n7 c7] 35)).alloc (.cells #[.bool sr, .slice Ar nr cr] 35) = V7 at *
              obtain ⟨q4, q5, q6, q7, q8, q9, q10, q12, hb11, hq, hd, q1⟩ := HQ.out
              have hg := HG.out
              have hwz := HNW.out.size
              have hch8 := Chg.at2 V7 g8 (.bool sr) (.slice Ar nr cr)
              have e9' := e9.chg hch8 n98
              have hch9 := Chg.at1 ((V7.setCell ⟨g8, 0, none⟩ (.bool sr)).setCell ⟨g8, 1, none⟩ (.slice Ar nr cr)) g9 (.int .i64 (i + (q : Int) + 1))
              have e10' := (e10.chg hch8 n108).chg hch9 n109
              have hch10 := Chg.at1 (((V7.setCell ⟨g8, 0, none⟩ (.bool sr)).setCell ⟨g8, 1, none⟩ (.slice Ar nr cr)).setCell ⟨g9, 0, none⟩ (.int .i64 (i + (q : Int) + 1))) g10 (.int .i64 0)
              have hnx : i + (q : Int) + 1 = i + ((t * k : Nat) : Int) + (k : Int) := by omega
              have hwf := ((hwr.far e8 (fun d h => by simp at h) hch8).far e9' (fun d h => by simp at h) hch9).far e10' (fun d h => by simp at h) hch10
              rw [← Int.natCast_emod, ← HX.out] at hwf
              refine ⟨(H5.out.2.2.2.2.2.1.trans ((New.keepsO (hn57.new hn77)).trans ((KeepsOthers.setCell _ _ _).trans ((KeepsOthers.setCell _ _ _).trans ((KeepsOthers.setCell _ _ _).trans (KeepsOthers.setCell _ _ _)))))).from _, rfl, t, sr, Ar, nr, cr, ⟨by omega, q4, by rw [HX.out]; exact HT.out⟩, ((e8.set2 _ _).chg hch9 n89).chg hch10 n810, hwf, ?_, e10'.set1 _, ?_⟩
              · rw [← hnx]
                exact (e9'.set1 _).chg hch10 n910
              · have hb5 := H5.out.2.2.2.2.2.2.1
                have hb7 := hb5.trans (Chg.below (hn57.new hn77) (fun _ hf => hf.elim) hb5.size)
                exact (((hb7.setCell (p := ⟨g8, 0, none⟩) (by simp; omega) _).setCell (p := ⟨g8, 1, none⟩) (by simp; omega) _).setCell (p := ⟨g9, 0, none⟩) (by simp; omega) _).setCell (p := ⟨g10, 0, none⟩) (by simp; omega) _
            · have he64 : ((t : Int) + 1 == 64) = false := by simp; omega
              gi_wp2
              obtain ⟨q4, q5, q6, q7, q8, q9, q10, q12, hb11, hq, hd, q1⟩ := HQ.out
              have hg := HG.out
              obtain ⟨r1, r2, r3, r4, r5, r6, r7, r8, r9⟩ := H5.out
              have hn6 := HN6.out
              have hl6 : ∀ b, b < w8.heap.size → b ≠ g20 → b ≠ g19 → w6'.heap[b]? = W.heap[b]? := fun b h1 h2 h3 => (hn6.block b (by omega) (fun h => h)).trans (r9 b h1 h2 h3)
              refine ⟨(r6.trans (New.keepsO hn6)).from _, ?_, t + 1, 0, some ⟨gA, 0, none⟩, c', ?_, by omega, by omega, ?_, ?_, (hl6 g8 (by omega) (by omega) (by omega)).trans q6, (hl6 g9 (by omega) (by omega) (by omega)).trans q7, (hl6 g10 (by omega) (by omega) (by omega)).trans q8, ?_, r2.chg hn6 (fun h => h), own_chg r5 hn6 (fun _ _ h => h), r7.trans (Chg.below hn6 (fun _ hf => hf.elim) r7.size), Nat.le_trans r8 hn6.size⟩
              · intro b hb
                refine hl6 b ?_ ?_ ?_ <;> rcases hb with rfl | rfl | rfl <;> omega
              · rw [List.length_append, hq, Nat.succ_mul]
                simp
                omega
              · intro u hu
                rcases Nat.lt_or_ge u t with h | h
                · exact q4 u h
                · obtain rfl : u = t := by omega
                  rw [HX.out]
                  exact hlt
              · intro b hb
                exact (hl6 b hb.1 (fun e => hb.2 (by simp [e])) (fun e => hb.2 (by simp [e]))).trans (q5 b hb)
              · have := r1.chg hn6 (fun h => h)
                rw [Int.natCast_add]
                exact this
        · obtain ⟨f, rfl⟩ : ∃ f, e = f + 1 := ⟨e - 1, by omega⟩
          have hij : (((f + 1 : Nat) : Int) - 1) = (f : Int) := by omega
          rw [hij]
          obtain ⟨dd, hdd⟩ : ∃ dd, L[f]? = some dd := ⟨_, List.getElem?_eq_getElem (by rw [HL.out.1]; omega)⟩
          have hddb : dd < 18446744073709551616 := HL.out.2.1 dd (List.mem_of_getElem? hdd)
          have hst := val_drop (B := 18446744073709551616) hdd
          have z0 := own_cell (own_chg H4.out.2.2.1 HE.out.2.2 (fun b hb e => by simp [blk] at hb; omega)) (i := f) (u := .int .u64 (dd : Int)) (by unfold nv; rw [List.getElem?_map, hdd]; rfl)
          have hvb : val 18446744073709551616 (L.drop f) < topN := by
            have h1 := val_lt (HL.out.2.1.drop f)
            rw [List.length_drop, HL.out.1] at h1
            exact Nat.lt_trans h1 (p64_top (k := k - f) (by omega))
          have HS := Lib.hid (And.intro hst hvb)
          have hfk : (f : Int) < (k : Int) := by omega
          have HN0 : Hid (New wo wo.drew) := (Chg.refl _ wo).drew
          have HC := Lib.hid (And.intro x0 (And.intro x1 hb20))
          clear hst hvb hdd hij hb20
          gi_wp2
          gi_region_with (first
            | (refine ⟨trivial, ?_⟩; gi_at_call 32; (with_reducible refine (CallsIn.inRound l' (callsIn_wide.2 (lift_any _ _ dd _ (by rw [HS.out.1, Nat.add_comm, Nat.mul_comm]) HS.out.2 hddb _ (HE.out.2.1.new HN0.out)))).mono ?_); rintro e w5 ⟨s5, A5, n5, c5, rfl, H5⟩; have HN5 : Hid (New wo w5) := HN0.out.new H5.out.2; have hbb5 := HE.out.1.chg HN5.out (fun h => h); have e0 := hbb5.cell 0 (u := .bool sx) rfl; have e1 := hbb5.cell 1 (u := .slice Ax nx cx) rfl; have f0 := hbb5.frozen 0; have f1 := hbb5.frozen 1; have HB5 := Lib.hid hbb5; clear hbb5))
          all_goals
            clear x0 x1 y0 z0 e0 e1 f0 f1
            gi_wp2
            go_roundw
            case rel =>
              have hch := Chg.at2 w5 g23 (.bool s5) (.slice A5 n5 c5)
              exact ⟨f, s5, A5, n5, c5, by go_num, by omega, HB5.out.set2 _ _, H5.out.1.store HB5.out (noInt_two _ _ _ _) hch, (HE.out.2.2.new HN5.out).trans hch (fun _ _ h => h)⟩
            case measure => simp [intOf]
end Go.Proofs.YtmpkaimhjdkheaaGreatDoor

namespace Go.Proofs.YtmpkaimhjdkheaaGreatDoor
set_option linter.unusedVariables false
open Go.RowKit Go.Mem Go.Dig Go.Pure

set_option maxHeartbeats 1000000 in
theorem big_neg (seed : Int) (lab : ByteArray) (i : Int) (v : Value) (z : Int) (hz : z < 1) (w : World) (hv : WI w v z) :
    Calls Tryz.prog 13 #[.int .u64 seed, .string lab, .int .i64 i, v] w fun e w' => e = .returned (.tuple #[.agg #[.bool false, .slice none 0 0], .int .i64 i, .int .i64 1]) ∧ New w w' := by
  obtain ⟨s, A, n, c, rfl, hs, hm⟩ := hv
  have H := Lib.hid (And.intro hs hm)
  clear hs hm
  go_enter Tryz.func13, Tryz.ntmps13
  go_wp2_with fail
  refine Calls.new4 ?_
  intro W hb1 hb2 hb3 hb4 hn hzz
  refine (sign_any _ z W (WI.new ⟨s, A, n, c, rfl, H.out⟩ hn)).mono ?_
  rintro e w1 ⟨rfl, hn1⟩
  have hC : cmpI z 0 < 1 := by unfold cmpI; split <;> (try split) <;> omega
  generalize cmpI z 0 = C at hC ⊢
  obtain ⟨g8, hg8⟩ : ∃ x, w.heap.size + 1 = x := ⟨_, rfl⟩
  obtain ⟨g9, hg9⟩ : ∃ x, w.heap.size + 1 + 1 = x := ⟨_, rfl⟩
  obtain ⟨g10, hg10⟩ : ∃ x, w.heap.size + 1 + 1 + 1 = x := ⟨_, rfl⟩
  rw [hg8] at hb2
  rw [hg9] at hb3
  rw [hg10] at hb4
  simp only [hg10]
  simp only [hg9]
  simp only [hg8]
  have e8 := hb2.chg hn1 (fun h => h)
  have e9 := hb3.chg hn1 (fun h => h)
  have e10 := hb4.chg hn1 (fun h => h)
  have u80 := e8.cell 0 (u := .bool false) rfl
  have u81 := e8.cell 1 (u := .slice none 0 0) rfl
  have u90 := e9.cell 0 (u := .int .i64 0) rfl
  have u100 := e10.cell 0 (u := .int .i64 0) rfl
  have v80 := e8.frozen 0
  have v81 := e8.frozen 1
  have v90 := e9.frozen 0
  have v100 := e10.frozen 0
  have n89 : ¬ g8 = g9 := by omega
  have n98 : ¬ g9 = g8 := by omega
  have n810 : ¬ g8 = g10 := by omega
  have n108 : ¬ g10 = g8 := by omega
  have n910 : ¬ g9 = g10 := by omega
  have n109 : ¬ g10 = g9 := by omega
  have hgs : w.heap.size ≤ g8 ∧ w.heap.size ≤ g9 ∧ w.heap.size ≤ g10 := by omega
  have HE := Lib.hid (And.intro e8 (And.intro e9 (And.intro e10 (And.intro (hn.new hn1) hgs))))
  clear hb1 hb2 hb3 hb4 hn hzz hn1 hg8 hg9 hg10 e8 e9 e10 hgs H
  go_wp2
  obtain ⟨e8, e9, e10, hn, hgs⟩ := HE.out
  have hch8 := Chg.at2 w1 g8 (.bool false) (.slice none 0 0)
  have e9' := e9.chg hch8 n98
  have hch9 := Chg.at1 ((w1.setCell ⟨g8, 0, none⟩ (.bool false)).setCell ⟨g8, 1, none⟩ (.slice none 0 0)) g9 (.int .i64 i)
  have e10' := (e10.chg hch8 n108).chg hch9 n109
  have hch10 := Chg.at1 (((w1.setCell ⟨g8, 0, none⟩ (.bool false)).setCell ⟨g8, 1, none⟩ (.slice none 0 0)).setCell ⟨g9, 0, none⟩ (.int .i64 i)) g10 (.int .i64 1)
  refine bodyPost_ret (res_ccc rfl _ rfl (aggInt.load (((e8.set2 _ _).chg hch9 n89).chg hch10 n810)) rfl (flatInt.load ((e9'.set1 _).chg hch10 n910)) rfl (flatErr.load (e10'.set1 _))) rfl ⟨rfl, ?_⟩
  exact Chg.owned (Chg.owned (Chg.owned hn hch8 (fun k e => by omega)) hch9 (fun k e => by omega)) hch10 (fun k e => by omega)
end Go.Proofs.YtmpkaimhjdkheaaGreatDoor

namespace Go.Proofs.YtmpkaimhjdkheaaGreatDoor
set_option linter.unusedVariables false
open Go.RowKit Go.Mem Go.Dig

set_option maxRecDepth 100000 in
set_option maxHeartbeats 4000000 in
theorem rdigit_any (d : Nat) (hd : d < 18446744073709551616) (w : World) :
    Calls Tryz.prog 89 #[.int .u64 d] w fun e w' => ∃ s A n c, e = .returned (.agg #[.bool s, .slice A n c]) ∧ Hid (RN w' (.agg #[.bool s, .slice A n c]) (d : Int) ∧ New w w') := by
  obtain ⟨p, hp⟩ : ∃ p, d / 4294967296 = p := ⟨_, rfl⟩
  obtain ⟨q, hq⟩ : ∃ q, d % 4294967296 = q := ⟨_, rfl⟩
  have hpi : (d : Int) / 4294967296 = (p : Int) := by omega
  have hqi : (d : Int) % 4294967296 = (q : Int) := by omega
  have hpb : p < 4294967296 := by omega
  have hqb : q < 4294967296 := by omega
  have HE : Hid ((p : Int) * 4294967296 + (q : Int) = (d : Int)) := by show _ = _; omega
  clear hp hq
  go_enter Tryz.func89, Tryz.ntmps89
  go_wp2_with fail
  refine Calls.new1 ?_
  intro W1 hb1 hn1 hz1
  refine (of_h (p : Int) W1 (by omega) (by omega)).mono ?_
  rintro e w2 ⟨s2, A2, n2, c2, rfl, H2⟩
  have HB := Lib.hid (And.intro (hb1.chg H2.out.2 (fun h => h)) (hn1.new H2.out.2))
  have hzz : w.heap.size < w2.heap.size := HB.out.1.lt
  clear hb1 hn1 hz1
  go_wp2_with fail
  refine Code.new1 ?_
  intro W hb3 hnW hzW
  have hc10 := hb3.cell 0 (u := .bool s2) rfl
  have hc11 := hb3.cell 1 (u := .slice A2 n2 c2) rfl
  have hbR := HB.out.1.chg hnW (fun h => h)
  have hc30 := hbR.cell 0 (u := .bool false) rfl
  have hc31 := hbR.cell 1 (u := .slice none 0 0) rfl
  have hf30 := hbR.frozen 0
  have hf31 := hbR.frozen 1
  have HW := Lib.hid (And.intro hb3 (And.intro hbR (And.intro (HB.out.2.new hnW) (H2.out.1.new hnW))))
  have HN0 : Hid (New W W.drew) := (Chg.refl _ W).drew
  have b1 : ((p : Nat) : Int).natAbs < 2 ^ 1000000 := small_big (by omega) (by omega)
  have b2 : (4294967296 : Int).natAbs < 2 ^ 1000000 := small_big (by omega) (by omega)
  have b3 : ((p : Int) * 4294967296).natAbs < 2 ^ 1000000 := small_big (by omega) (by omega)
  have b4 : ((q : Nat) : Int).natAbs < 2 ^ 1000000 := small_big (by omega) (by omega)
  have HBB := Lib.hid (And.intro b1 (And.intro b2 (And.intro b3 b4)))
  have g1 : (d : Int).tmod 4294967296 = (q : Int) := by rw [Int.tmod_eq_emod_of_nonneg (by omega)]; exact hqi
  have g2 : IntKind.u64.wrap (q : Int) = (q : Int) := by rw [IntKind.wrap_u64]; omega
  have g3 : IntKind.i64.wrap (q : Int) = (q : Int) := IntWalk.i64_in _ (by omega)
  clear hb3 hnW hzW hbR HB H2 b1 b2 b3 b4
  go_region_held3 (fun w' => w'.cell? ⟨w2.heap.size, 0, none⟩ = some (.bool s2) ∧ w'.cell? ⟨w2.heap.size, 1, none⟩ = some (.slice A2 n2 c2)) (first | exact ⟨by assumption, by assumption⟩ | exact ⟨far2 ha10 (by dsimp only; omega) _ _, far2 ha11 (by dsimp only; omega) _ _⟩)
    (first
      | (go_at_call 7; (with_reducible refine (of_h 4294967296 _ (by omega) (by omega)).mono ?_); rintro e w5 ⟨s5, A5, n5, c5, rfl, H5⟩; have HN5 : Hid (New W w5) := HN0.out.new H5.out.2; have hd10 := HN5.out.cell hc10 (fun h => h); have hd11 := HN5.out.cell hc11 (fun h => h))
      | (go_at_call 10; (with_reducible refine (rmul_h _ _ _ _ _ (HW.out.2.2.2.new HN5.out) H5.out.1 HBB.out.1 HBB.out.2.1).mono ?_); rintro e w6 ⟨s6, A6, n6, c6, rfl, H6⟩; have HN6 : Hid (New W w6) := HN5.out.new H6.out.2; have he10 := HN6.out.cell hc10 (fun h => h); have he11 := HN6.out.cell hc11 (fun h => h))
      | (go_at_call 7; (with_reducible refine (of_h (q : Int) _ (by omega) (by omega)).mono ?_); rintro e w7 ⟨s7, A7, n7, c7, rfl, H7⟩; have HN7 : Hid (New W w7) := HN6.out.new H7.out.2; have hg10 := HN7.out.cell hc10 (fun h => h); have hg11 := HN7.out.cell hc11 (fun h => h))
      | (go_at_call 19; (with_reducible refine (radd_h _ _ _ _ _ (H6.out.1.new H7.out.2) H7.out.1 HBB.out.2.2.1 HBB.out.2.2.2).mono ?_); rintro e w8 ⟨s8, A8, n8, c8, rfl, H8⟩; have HN8 : Hid (New W w8) := HN7.out.new H8.out.2; have ha10 := HN8.out.cell hc10 (fun h => h); have ha11 := HN8.out.cell hc11 (fun h => h); have ha30 := HN8.out.cell hc30 (fun h => h); have ha31 := HN8.out.cell hc31 (fun h => h); have hb30 := (HW.out.2.1.chg HN8.out (fun h => h)).frozen 0; have hb31 := (HW.out.2.1.chg HN8.out (fun h => h)).frozen 1))
  all_goals
    clear hc10 hc11 hc30 hc31 hf30 hf31 hd10 hd11 he10 he11 hg10 hg11 g1 g2 g3
    go_wp2
    have hb8 := HW.out.2.1.chg HN8.out (fun h => h)
    obtain ⟨hr8, hn8⟩ := H8.out
    rw [HE.out] at hr8
    refine bodyPost_ret (res_c rfl _ rfl (aggN.load (hb8.set2 _ _))) rfl ⟨s8, A8, n8, c8, rfl, hr8.store hb8 (noInt_two' _ _ _ _) (Chg.at2 _ _ _ _), ?_⟩
    exact Chg.owned (HW.out.2.2.1.new HN8.out) (Chg.at2 _ _ _ _) (fun k e => by omega)
end Go.Proofs.YtmpkaimhjdkheaaGreatDoor

namespace Go.Proofs.YtmpkaimhjdkheaaGreatDoor
set_option linter.unusedVariables false
open Go.RowKit Go.Mem Go.Dig Go.Pure

theorem power64_h (W : World) :
    Calls Tryz.prog 9 #[.int .i64 64] W fun e w' => ∃ s A n c, e = .returned (.agg #[.bool s, .slice A n c]) ∧ Hid (RN w' (.agg #[.bool s, .slice A n c]) ((2 ^ 64 : Nat) : Int) ∧ New W w') := by
  have h := power_h 64 (by omega) W
  rw [show ((64 : Nat) : Int) = 64 from rfl] at h
  exact h

set_option maxRecDepth 100000 in
set_option maxHeartbeats 4000000 in
theorem rdigits_any (seed : Int) (lab : ByteArray) (hlab : lab.size ≤ 1000000) (at_ : Int) (hat : 0 ≤ at_ ∧ at_ ≤ 10000000000) (k : Nat) (hk : k ≤ 300) (w : World) :
    Calls Tryz.prog 65 #[.int .u64 seed, .string lab, .int .i64 at_, .int .i64 k] w fun e w' => ∃ s A n c, e = .returned (.agg #[.bool s, .slice A n c]) ∧ Hid (RN w' (.agg #[.bool s, .slice A n c]) ((val 18446744073709551616 (wordsL seed lab.data.toList at_ k) : Nat) : Int) ∧ New w w') := by
  obtain ⟨L, hL⟩ : ∃ L, wordsL seed lab.data.toList at_ k = L := ⟨_, rfl⟩
  rw [hL]
  have hLl : L.length = k := by rw [← hL]; exact wordsL_len _ _ _ _
  have hLd : Digs 18446744073709551616 L := by rw [← hL]; exact wordsL_digs _ _ _ _
  have hLa : ∀ e, e < k → L[e]? = some (wordI seed lab.data.toList (at_ + e)).toNat := fun e he => by rw [← hL]; exact wordsL_at _ _ _ he
  have HL := Lib.hid (And.intro hLl (And.intro hLd hLa))
  obtain ⟨hat1, hat2⟩ := hat
  clear hL hLl hLd hLa
  go_enter Tryz.func65, Tryz.ntmps65
  go_wp2_with fail
  refine Code.new2 ?_
  intro W0 hb1 hb2 hn0 hz0
  have H0 := Lib.hid (And.intro hb1 (And.intro hb2 hn0))
  clear hb1 hb2 hn0 hz0
  go_loopw [10] (fun v wr => ∃ j : Nat, ∃ s A n c, v = .int .i64 ((j : Int) - 1) ∧ j ≤ k ∧ Hid (Blk wr w.heap.size 26 #[.bool false, .slice none 0 0] ∧ Blk wr (w.heap.size + 1) 26 #[.bool s, .slice A n c] ∧ RN wr (.agg #[.bool s, .slice A n c]) ((val 18446744073709551616 (L.drop j) : Nat) : Int) ∧ New w wr)) (fun v _ => (intOf v + 1).toNat)
  case atStart =>
    refine ⟨k, false, none, 0, 0, rfl, Nat.le_refl _, H0.out.1, H0.out.2.1, ?_, H0.out.2.2⟩
    rw [List.drop_of_length_le (by rw [HL.out.1]; exact Nat.le_refl _)]
    exact RN.zero _
  case round =>
    clear H0
    obtain ⟨j, s, A, n, c, rfl, hj, HI⟩ := hrel
    have hc10 := HI.out.2.1.cell 0 (u := .bool s) rfl
    have hc11 := HI.out.2.1.cell 1 (u := .slice A n c) rfl
    by_cases h0 : j = 0
    · subst h0
      have x0 := HI.out.1.cell 0 (u := .bool false) rfl
      have x1 := HI.out.1.cell 1 (u := .slice none 0 0) rfl
      have f0 := HI.out.1.frozen 0
      have f1 := HI.out.1.frozen 1
      go_wp2
      obtain ⟨i1, i2, i3, i4⟩ := HI.out
      rw [List.drop_zero] at i3
      refine bodyPost_ret (res_c rfl _ rfl (aggN.load (i1.set2 _ _))) rfl ⟨s, A, n, c, rfl, i3.store i1 (noInt_two' _ _ _ _) (Chg.at2 _ _ _ _), ?_⟩
      exact Chg.owned i4 (Chg.at2 _ _ _ _) (fun k e => by omega)
    · obtain ⟨i, rfl⟩ : ∃ i, j = i + 1 := ⟨j - 1, by omega⟩
      have hij : (((i + 1 : Nat) : Int) - 1) = (i : Int) := by omega
      rw [hij]
      obtain ⟨wo, rfl⟩ : ∃ wo : World, wo = wr := ⟨_, rfl⟩
      have hLi := HL.out.2.2 i (by omega)
      have hwr := wordI_range seed lab.data.toList (at_ + i)
      obtain ⟨d, hd⟩ : ∃ d : Nat, wordI seed lab.data.toList (at_ + i) = (d : Int) := ⟨(wordI seed lab.data.toList (at_ + i)).toNat, by omega⟩
      rw [hd, Int.toNat_natCast] at hLi
      have hdb : d < 18446744073709551616 := by omega
      have b1 := words_big (HL.out.2.1.drop (i + 1)) (by rw [List.length_drop, HL.out.1]; omega)
      have b3 := words_big64 (HL.out.2.1.drop (i + 1)) (by rw [List.length_drop, HL.out.1]; omega)
      have b4 : ((d : Nat) : Int).natAbs < 2 ^ 1000000 := small_big (by omega) (by omega)
      have hst : (val 18446744073709551616 (L.drop (i + 1)) : Int) * ((2 ^ 64 : Nat) : Int) + (d : Int) = ((val 18446744073709551616 (L.drop i) : Nat) : Int) := by
        rw [val_drop hLi, Int.natCast_add, Int.natCast_mul]
        rw [show ((2 ^ 64 : Nat) : Int) = ((18446744073709551616 : Nat) : Int) from rfl, Int.mul_comm]
        omega
      have HS := Lib.hid (And.intro hd (And.intro b1 (And.intro b3 (And.intro b4 hst))))
      have g1 : IntKind.i64.wrap (at_ + (i : Int)) = at_ + (i : Int) := IntWalk.i64_in _ (by omega)
      have HN0 : Hid (New wo wo.drew) := (Chg.refl _ wo).drew
      have hwd := fun W => word_any seed lab hlab (at_ + (i : Int)) W
      have HWD := Lib.hid (fun W => (rword_any seed lab hlab (at_ + (i : Int)) W))
      clear hij hLi hwr hd b1 b3 b4 hst hwd
      go_wp2_with fail
      go_region_with (first
        | (go_at_call 9; (with_reducible refine (power64_h _).mono ?_); rintro e w5 ⟨s5, A5, n5, c5, rfl, H5⟩; have HN5 : Hid (New wo w5) := HN0.out.new H5.out.2; have hd10 := HN5.out.cell hc10 (fun h => h); have hd11 := HN5.out.cell hc11 (fun h => h))
        | (go_at_call 10; (with_reducible refine (rmul_h _ _ _ _ _ (HI.out.2.2.1.new HN5.out) H5.out.1 HS.out.2.1 (pow_big (t := 64) (by omega))).mono ?_); rintro e w6 ⟨s6, A6, n6, c6, rfl, H6⟩; have HN6 : Hid (New wo w6) := HN5.out.new H6.out.2)
        | (go_at_call 90; (with_reducible refine (HWD.out _).mono ?_); rw [HS.out.1]; rintro e w7 ⟨rfl, HN7⟩)
        | (go_at_call 89; (with_reducible refine (rdigit_any d hdb _).mono ?_); rintro e w8 ⟨s8, A8, n8, c8, rfl, H8⟩; have HN8 : Hid (New wo w8) := (HN6.out.new HN7).new H8.out.2)
        | (go_at_call 19; (with_reducible refine (radd_h _ _ _ _ _ ((H6.out.1.new HN7).new H8.out.2) H8.out.1 HS.out.2.2.1 HS.out.2.2.2.1).mono ?_); rintro e w9 ⟨s9, A9, n9, c9, rfl, H9⟩; have HN9 : Hid (New wo w9) := HN8.out.new H9.out.2; have he10 := HN9.out.cell hc10 (fun h => h); have he11 := HN9.out.cell hc11 (fun h => h); have hf10 := (HI.out.2.1.chg HN9.out (fun h => h)).frozen 0; have hf11 := (HI.out.2.1.chg HN9.out (fun h => h)).frozen 1))
      all_goals
        clear hc10 hc11 g1
        go_wp2
        go_roundw
        case rel =>
          obtain ⟨i1, i2, i3, i4⟩ := HI.out
          have hbb := i2.chg HN9.out (fun h => h)
          have hcs : Chg (fun k => k = w.heap.size + 1) w9 ((w9.setCell ⟨w.heap.size + 1, 0, none⟩ (.bool s9)).setCell ⟨w.heap.size + 1, 1, none⟩ (.slice A9 n9 c9)) := Chg.at2 _ _ _ _
          have hr9 := H9.out.1
          rw [HS.out.2.2.2.2] at hr9
          exact ⟨i, s9, A9, n9, c9, by go_num, by omega, (i1.chg HN9.out (fun h => h)).chg hcs (by omega), hbb.set2 _ _, hr9.store hbb (noInt_two' _ _ _ _) hcs, Chg.owned (i4.new HN9.out) hcs (fun k e => by omega)⟩
        case measure => simp [intOf]
end Go.Proofs.YtmpkaimhjdkheaaGreatDoor

namespace Go.Proofs.YtmpkaimhjdkheaaGreatDoor
set_option linter.unusedVariables false
open Go.RowKit Go.Mem Go.Dig Go.Pure

set_option maxRecDepth 100000 in
set_option maxHeartbeats 4000000 in
theorem rbig_any (seed : Int) (lab : ByteArray) (hlab : lab.size ≤ 1000000) (i : Int) (hi : 0 ≤ i ∧ i ≤ 1000000000) (v : Value) (N : Nat) (hN1 : 1 ≤ N) (bN : N < 2 ^ 900000) (k : Nat) (hk : k ≤ 300) (w : World) (hv : RN w v (N : Int)) :
    Calls Tryz.prog 34 #[.int .u64 seed, .string lab, .int .i64 i, v, .int .i64 k] w fun e w' => ∃ s A n c t, e = .returned (.tuple #[.agg #[.bool s, .slice A n c], .int .i64 (i + (t * k : Nat) + (k : Int))]) ∧ Hid (Taken (tryN seed lab.data.toList i k) (2 ^ (64 * k) - 2 ^ (64 * k) % N) t ∧ RN w' (.agg #[.bool s, .slice A n c]) ((tryN seed lab.data.toList i k t % N : Nat) : Int) ∧ New w w') := by
  obtain ⟨s0, A0, n0, c0, rfl, hs0, hm0⟩ := hv
  obtain ⟨M, hM⟩ : ∃ M, 2 ^ (64 * k) = M := ⟨_, rfl⟩
  rw [hM]
  have bM : M < 2 ^ 1000000 := by rw [← hM]; exact pow_lt_K (64 * k) 1000000 (Nat.lt_of_le_of_lt (Nat.mul_le_mul_left 64 hk) (by decide))
  have bM' : ((M : Nat) : Int).natAbs < 2 ^ 1000000 := by rw [Int.natAbs_natCast]; exact bM
  have bO : ((M % N : Nat) : Int).natAbs < 2 ^ 1000000 := by rw [Int.natAbs_natCast]; exact Nat.lt_of_le_of_lt (Nat.mod_le _ _) bM
  have bN' : ((N : Nat) : Int).natAbs < 2 ^ 900000 := by rw [Int.natAbs_natCast]; exact bN
  have hpw := fun W => power_any (64 * k) (Nat.le_trans (Nat.mul_le_mul_left 64 hk) (by decide)) W
  rw [hM] at hpw
  obtain ⟨K6, hK6⟩ : ∃ K6, 64 * k = K6 := ⟨_, rfl⟩
  rw [hK6] at hpw
  have hpwi : (64 : Int) * (k : Int) = (K6 : Int) := by omega
  have hK6b : K6 ≤ 19200 := by omega
  obtain ⟨X, hX⟩ : ∃ X, tryN seed lab.data.toList i k = X := ⟨_, rfl⟩
  rw [hX]
  have bX : ∀ t, ((X t : Nat) : Int).natAbs < 2 ^ 1000000 := fun t => by rw [← hX]; exact tryN_big _ _ _ hk t
  obtain ⟨hi1, hi2⟩ := hi
  have hdg : ∀ (t : Nat), t ≤ 63 → ∀ W, Calls Tryz.prog 65 #[.int .u64 seed, .string lab, .int .i64 (i + (t * k : Nat)), .int .i64 k] W fun e w' => ∃ s A n c, e = .returned (.agg #[.bool s, .slice A n c]) ∧ Hid (RN w' (.agg #[.bool s, .slice A n c]) ((X t : Nat) : Int) ∧ New W w') := fun t ht W => by
    have htk : t * k ≤ 63 * 300 := Nat.mul_le_mul ht hk
    have := rdigits_any seed lab hlab (i + (t * k : Nat)) ⟨by omega, by omega⟩ k hk W
    rw [← hX]
    exact this
  have H0 := Lib.hid (And.intro hs0 (And.intro hm0 (And.intro bM' (And.intro bO (And.intro bN' (And.intro bX (And.intro hpw hdg)))))))
  clear hs0 hm0 bM bM' bO bN bN' hpw bX hX hM hdg hK6
  go_enter Tryz.func34, Tryz.ntmps34
  go_wp2_with fail
  refine Calls.new2 ?_
  intro W1 hb1 hb2 hn1 hz1
  refine (H0.out.2.2.2.2.2.2.1 W1).mono ?_
  rintro e w2 ⟨v2, rfl, ⟨s2, A2, n2, c2, rfl, hs2, hm2⟩, hn2⟩
  have hd1 := hb1.chg hn2 (fun h => h)
  have hc10 := hd1.cell 0 (u := .bool s0) rfl
  have hc11 := hd1.cell 1 (u := .slice A0 n0 c0) rfl
  have hz2 : w.heap.size < w2.heap.size := hd1.lt
  have H2 := Lib.hid (And.intro hd1 (And.intro (hb2.chg hn2 (fun h => h)) (And.intro (hn1.new hn2) (And.intro hs2 hm2))))
  clear hb1 hb2 hn1 hz1 hs2 hm2 hn2 hd1 hpwi
  go_wp2_with fail
  refine Calls.new1 ?_
  intro W3 hb3 hn3 hz3
  obtain ⟨hd1, hd2, hn2, hs2, hm2⟩ := H2.out
  obtain ⟨hs0, hm0, bM, bO, bN, _⟩ := H0.out
  refine (rdiv_any _ _ (M : Int) (N : Int) W3 ⟨s2, A2, n2, c2, rfl, hs2, hm2.new hn3⟩ ⟨s0, A0, n0, c0, rfl, hs0, hm0.new (hn2.new hn3)⟩ bM bN (by omega)).mono ?_
  rintro e w4 ⟨vq, vr, rfl, ⟨sq, Aq, nq, cq, rfl, hsq, hmq⟩, ⟨sr, Ar, nr, cr, rfl, hsr, hmr⟩, hn4⟩
  rw [← Int.natCast_emod] at hsr hmr
  have hn34 := hn3.new hn4
  have e3 := hb3.chg hn4 (fun h => h)
  have k30 := e3.cell 0 (u := .bool s2) rfl
  have k31 := e3.cell 1 (u := .slice A2 n2 c2) rfl
  have hz4 : w2.heap.size < w4.heap.size := e3.lt
  have H4 := Lib.hid (And.intro (hd1.chg hn34 (fun h => h)) (And.intro (hd2.chg hn34 (fun h => h)) (And.intro (hn2.new hn34) (And.intro hs2 (And.intro (hm2.new hn34) (And.intro hsr hmr))))))
  clear hb3 hn3 hz3 hd1 hd2 hn2 hs2 hm2 hs0 hm0 bM bO bN hsq hmq hsr hmr hn4 hn34 e3 H2 hc10 hc11
  go_wp2_with fail
  refine Calls.new2 ?_
  intro W5 hb5 hb6 hn5 hz5
  obtain ⟨hd1, hd2, hn2, hs2, hm2, hsr, hmr⟩ := H4.out
  refine (rsub_any _ _ (M : Int) ((M % N : Nat) : Int) W5 ⟨s2, A2, n2, c2, rfl, hs2, hm2.new hn5⟩ ⟨sr, Ar, nr, cr, rfl, hsr, hmr.new hn5⟩ H0.out.2.2.1 H0.out.2.2.2.1).mono ?_
  rintro e w6 ⟨v6, rfl, ⟨s6, A6, n6, c6, rfl, hs6, hm6⟩, hn6⟩
  rw [show ((M : Nat) : Int) - ((M % N : Nat) : Int) = ((M - M % N : Nat) : Int) by rw [Int.ofNat_sub (Nat.mod_le _ _)]] at hs6 hm6
  obtain ⟨bd, hbd⟩ : ∃ bd, M - M % N = bd := ⟨_, rfl⟩
  rw [hbd] at hs6 hm6
  have hn56 := hn5.new hn6
  have H6 := Lib.hid (And.intro (hd1.chg hn56 (fun h => h)) (And.intro (hd2.chg hn56 (fun h => h)) (And.intro (hn2.new hn56) (And.intro hs6 (And.intro hm6 hbd)))))
  clear hb5 hb6 hn5 hz5 hd1 hd2 hn2 hs2 hm2 hsr hmr hs6 hm6 hn6 hn56 hbd H4 k30 k31
  go_wp2_with fail
  refine Calls.new1 ?_
  intro W7 hb7 hn7 hz7
  have hdg0 := H0.out.2.2.2.2.2.2.2 0 (by omega) W7
  rw [show i + ((0 * k : Nat) : Int) = i by simp] at hdg0
  refine hdg0.mono ?_
  rintro e w8 ⟨s8, A8, n8, c8, rfl, H8⟩
  obtain ⟨g4, hg4⟩ : ∃ g, w6.heap.size = g := ⟨_, rfl⟩
  obtain ⟨g5, hg5⟩ : ∃ g, w8.heap.size = g := ⟨_, rfl⟩
  obtain ⟨hd1, hd2, hn6, hs6, hm6, hbd⟩ := H6.out
  have hn78 := hn7.new H8.out.2
  have e7 := hb7.chg H8.out.2 (fun h => h)
  rw [hg4] at e7
  have hl1 : w.heap.size + 1 < g4 := by have := hd2.lt; omega
  have hl2 : g4 < g5 := by have := e7.lt; omega
  obtain ⟨W9, hW9⟩ : ∃ W9, w8.alloc (.cells #[.bool s8, .slice A8 n8 c8] 26) = W9 := ⟨_, rfl⟩
  have hn9 : New w8 W9 := by rw [← hW9]; exact (Chg.refl _ _).alloc _
  have hb9 : Blk W9 g5 26 #[.bool s8, .slice A8 n8 c8] := by rw [← hW9, ← hg5]; exact Blk.new _ _ _
  have H9 := Lib.hid (And.intro ((hd1.chg hn78 (fun h => h)).chg hn9 (fun h => h)) (And.intro ((hd2.chg hn78 (fun h => h)).chg hn9 (fun h => h)) (And.intro (e7.chg hn9 (fun h => h)) (And.intro hb9 (And.intro (hn6.new (hn78.new hn9)) (And.intro (show RN W9 (.agg #[.bool s6, .slice A6 n6 c6]) (bd : Int) from ⟨s6, A6, n6, c6, rfl, hs6, (hm6.new hn78).new hn9⟩) (And.intro (H8.out.1.new hn9) hbd)))))))
  have HW9 := Lib.hid hW9
  clear hb7 hn7 hz7 hdg0 hd1 hd2 hn6 hs6 hm6 hbd hn78 e7 hW9 hn9 hb9 H6 H8
  go_wp2_with fail
  rw [HW9.out]
  clear HW9 hg4 hg5
  go_loopw [16, 18] (fun a u wr => ∃ t : Nat, ∃ s A n c, a = .int .i64 (i + (t * k : Nat)) ∧ u = .int .i64 ((t : Int) + 1) ∧ t ≤ 63 ∧ Hid ((∀ j, j < t → ¬ X j < bd) ∧ Blk wr w.heap.size 26 #[.bool s0, .slice A0 n0 c0] ∧ Blk wr (w.heap.size + 1) 26 #[.bool false, .slice none 0 0] ∧ Blk wr g4 26 #[.bool s6, .slice A6 n6 c6] ∧ Blk wr g5 26 #[.bool s, .slice A n c] ∧ New w wr ∧ RN wr (.agg #[.bool s6, .slice A6 n6 c6]) (bd : Int) ∧ RN wr (.agg #[.bool s, .slice A n c]) ((X t : Nat) : Int))) (fun _ u _ => 65 - (intOf u).toNat)
  case atStart =>
    obtain ⟨h1, h2, h3, h4, h5, h6, h7, h8⟩ := H9.out
    exact ⟨0, s8, A8, n8, c8, by simp, rfl, by omega, fun j hj => by omega, h1, h2, h3, h4, h5, h6, h7⟩
  case round =>
    obtain ⟨t, s, A, n, c, rfl, rfl, ht, HI⟩ := hrel
    have HBD := Lib.hid H9.out.2.2.2.2.2.2.2
    clear H9
    have htk : t * k ≤ 63 * 300 := Nat.mul_le_mul ht hk
    obtain ⟨q, hq⟩ : ∃ q, t * k = q := ⟨_, rfl⟩
    have hqb : q ≤ 18900 := by omega
    have x0 := HI.out.2.2.2.2.1.cell 0 (u := .bool s) rfl
    have x1 := HI.out.2.2.2.2.1.cell 1 (u := .slice A n c) rfl
    have y0 := HI.out.2.2.2.1.cell 0 (u := .bool s6) rfl
    have y1 := HI.out.2.2.2.1.cell 1 (u := .slice A6 n6 c6) rfl
    have z0 := HI.out.2.1.cell 0 (u := .bool s0) rfl
    have z1 := HI.out.2.1.cell 1 (u := .slice A0 n0 c0) rfl
    rw [hq]
    have HQ := Lib.hid hq
    clear hq htk
    by_cases ht63 : t = 63
    · have hge : decide (((t : Int) + 1) < 64) = false := by simp; omega
      have HT := Lib.hid ht63
      clear ht63
      have HJ := Lib.hid HI.out.2
      go_wp2_with fail
      refine (rdiv_any _ _ ((X t : Nat) : Int) (N : Int) wr HJ.out.2.2.2.2.2.2 ⟨s0, A0, n0, c0, rfl, H0.out.1, H0.out.2.1.new HJ.out.2.2.2.2.1⟩ (H0.out.2.2.2.2.2.1 t) H0.out.2.2.2.2.1 (by omega)).mono ?_
      rintro e wa ⟨va, vb, rfl, ⟨sa, Aa, na, ca, rfl, hsa, hma⟩, ⟨sb, Ab, nb, cb, rfl, hsb, hmb⟩, hna⟩
      rw [← Int.natCast_emod] at hsb hmb
      have hr2 := HJ.out.2.1.chg hna (fun h => h)
      have r0 := hr2.cell 0 (u := .bool false) rfl
      have r1 := hr2.cell 1 (u := .slice none 0 0) rfl
      have f0 := hr2.frozen 0
      have f1 := hr2.frozen 1
      have hrl : w.heap.size + 1 < wa.heap.size := hr2.lt
      have hrl0 : w.heap.size < wa.heap.size := by omega
      have HZ := Lib.hid (And.intro hr2 (And.intro (HJ.out.2.2.2.2.1.new hna) (And.intro hsb hmb)))
      clear hsa hma hsb hmb hna hr2
      go_wp2
      obtain ⟨hr2, hn2, hsb, hmb⟩ := HZ.out
      have hfin := (((hr2.set2 (.bool sb) (.slice Ab nb cb)).alloc (.cells #[.bool sa, .slice Aa na ca] 26)).alloc (.cells #[.bool sb, .slice Ab nb cb] 26))
      have hq' := HQ.out
      refine bodyPost_ret (res_ct rfl _ rfl (aggN.load hfin) rfl) rfl ⟨sb, Ab, nb, cb, t, by rw [hq']; rfl, ⟨by rw [HBD.out]; exact ⟨by omega, HI.out.1, .inr HT.out⟩, ⟨sb, Ab, nb, cb, rfl, hsb, ?_⟩, ?_⟩⟩
      · exact ((hmb.store hr2 (noInt_two' _ _ _ _) (Chg.at2 _ _ _ _)).new ((Chg.refl _ _).alloc _)).new ((Chg.refl _ _).alloc _)
      · exact ((Chg.owned hn2 (Chg.at2 _ _ _ _) (fun k e => by omega)).alloc _).alloc _
    · have hlt : ((t : Int) + 1) < 64 := by omega
      go_wp2_with fail
      refine (rcompare_any _ _ ((X t : Nat) : Int) (bd : Int) wr HI.out.2.2.2.2.2.2.2 HI.out.2.2.2.2.2.2.1).mono ?_
      rintro e w3 ⟨rfl, hn3⟩
      obtain ⟨j1, j2, j3, j4, j5, j6, j7⟩ := HI.out.2
      have HJ := Lib.hid (And.intro (j1.chg hn3 (fun h => h)) (And.intro (j2.chg hn3 (fun h => h)) (And.intro (j3.chg hn3 (fun h => h)) (And.intro (j4.chg hn3 (fun h => h)) (And.intro (j5.new hn3) (And.intro (j6.new hn3) (j7.new hn3)))))))
      have x0 := HJ.out.2.2.2.1.cell 0 (u := .bool s) rfl
      have x1 := HJ.out.2.2.2.1.cell 1 (u := .slice A n c) rfl
      have z0 := HJ.out.1.cell 0 (u := .bool s0) rfl
      have z1 := HJ.out.1.cell 1 (u := .slice A0 n0 c0) rfl
      clear j1 j2 j3 j4 j5 j6 j7 hn3 y0 y1
      by_cases hc : X t < bd
      · rw [cmpI_lt (show ((X t : Nat) : Int) < (bd : Int) by omega)]
        have HC := Lib.hid hc
        clear hc
        go_wp2_with fail
        refine (rdiv_any _ _ ((X t : Nat) : Int) (N : Int) w3 HJ.out.2.2.2.2.2.2 ⟨s0, A0, n0, c0, rfl, H0.out.1, H0.out.2.1.new HJ.out.2.2.2.2.1⟩ (H0.out.2.2.2.2.2.1 t) H0.out.2.2.2.2.1 (by omega)).mono ?_
        rintro e wa ⟨va, vb, rfl, ⟨sa, Aa, na, ca, rfl, hsa, hma⟩, ⟨sb, Ab, nb, cb, rfl, hsb, hmb⟩, hna⟩
        rw [← Int.natCast_emod] at hsb hmb
        have hr2 := HJ.out.2.1.chg hna (fun h => h)
        have r0 := hr2.cell 0 (u := .bool false) rfl
        have r1 := hr2.cell 1 (u := .slice none 0 0) rfl
        have f0 := hr2.frozen 0
        have f1 := hr2.frozen 1
        have hrl : w.heap.size + 1 < wa.heap.size := hr2.lt
        have hrl0 : w.heap.size < wa.heap.size := by omega
        have HZ := Lib.hid (And.intro hr2 (And.intro (HJ.out.2.2.2.2.1.new hna) (And.intro hsb hmb)))
        clear hsa hma hsb hmb hna hr2
        go_wp2
        obtain ⟨hr2, hn2, hsb, hmb⟩ := HZ.out
        have hfin := (((hr2.set2 (.bool sb) (.slice Ab nb cb)).alloc (.cells #[.bool sa, .slice Aa na ca] 26)).alloc (.cells #[.bool sb, .slice Ab nb cb] 26))
        have hq' := HQ.out
        refine bodyPost_ret (res_ct rfl _ rfl (aggN.load hfin) rfl) rfl ⟨sb, Ab, nb, cb, t, by rw [hq']; rfl, ⟨by rw [HBD.out]; exact ⟨by omega, HI.out.1, .inl HC.out⟩, ⟨sb, Ab, nb, cb, rfl, hsb, ?_⟩, ?_⟩⟩
        · exact ((hmb.store hr2 (noInt_two' _ _ _ _) (Chg.at2 _ _ _ _)).new ((Chg.refl _ _).alloc _)).new ((Chg.refl _ _).alloc _)
        · exact ((Chg.owned hn2 (Chg.at2 _ _ _ _) (fun k e => by omega)).alloc _).alloc _
      · have hcv : decide ((0 : Int) ≤ cmpI ((X t : Nat) : Int) (bd : Int)) = true := by
          unfold cmpI
          rw [if_neg (by omega)]
          split <;> decide
        generalize cmpI ((X t : Nat) : Int) (bd : Int) = cv at *
        have HC := Lib.hid hc
        clear hc
        have hqk : i + (q : Int) + (k : Int) = i + (((t + 1) * k : Nat) : Int) := by
          rw [Nat.add_mul, HQ.out]; omega
        have hdg := H0.out.2.2.2.2.2.2.2 (t + 1) (by omega)
        rw [← hqk] at hdg
        have HDG := Lib.hid (And.intro hdg hqk)
        have f0 := HJ.out.2.2.2.1.frozen 0
        have f1 := HJ.out.2.2.2.1.frozen 1
        clear hdg hqk
        go_wp2_with fail
        refine (HDG.out.1 w3).mono ?_
        rintro e wa ⟨sa, Aa, na, ca, rfl, HA⟩
        have hba := HJ.out.2.2.2.1.chg HA.out.2 (fun h => h)
        have x0 := hba.cell 0 (u := .bool s) rfl
        have x1 := hba.cell 1 (u := .slice A n c) rfl
        have f0 := hba.frozen 0
        have f1 := hba.frozen 1
        clear hba
        go_wp2
        go_roundw
        case rel =>
          obtain ⟨j1, j2, j3, j4, j5, j6, j7⟩ := HJ.out
          have hna := HA.out.2
          have hba := j4.chg hna (fun h => h)
          have hcs : Chg (fun k => k = g5) wa ((wa.setCell ⟨g5, 0, none⟩ (.bool sa)).setCell ⟨g5, 1, none⟩ (.slice Aa na ca)) := Chg.at2 _ _ _ _
          refine ⟨t + 1, sa, Aa, na, ca, by rw [HDG.out.2], by go_num, by omega, ?_, (j1.chg hna (fun h => h)).chg hcs (by omega), (j2.chg hna (fun h => h)).chg hcs (by omega), (j3.chg hna (fun h => h)).chg hcs (by omega), hba.set2 _ _, Chg.owned (j5.new hna) hcs (fun k e => by omega), (j6.new hna).store hba (noInt_two' _ _ _ _) hcs, HA.out.1.store hba (noInt_two' _ _ _ _) hcs⟩
          intro j hj
          rcases Nat.lt_or_ge j t with h | h
          · exact HI.out.1 j h
          · obtain rfl : j = t := by omega
            exact HC.out
        case measure => simp [intOf]; omega
end Go.Proofs.YtmpkaimhjdkheaaGreatDoor

namespace Go.Proofs.YtmpkaimhjdkheaaGreatDoor
set_option linter.unusedVariables false
open Go.RowKit Go.Mem Go.Dig Go.Pure

theorem least_k (N : Nat) : ∀ K, N ≤ p64 K → ∃ k, k ≤ K ∧ N ≤ p64 k ∧ ∀ j, j < k → p64 j < N := by
  intro K
  induction K with
  | zero => intro h; exact ⟨0, Nat.le_refl _, h, fun j hj => by omega⟩
  | succ K ih =>
    intro h
    by_cases h1 : N ≤ p64 K
    · obtain ⟨k, a, b, c⟩ := ih h1
      exact ⟨k, by omega, b, c⟩
    · refine ⟨K + 1, Nat.le_refl _, h, fun j hj => ?_⟩
      exact Nat.lt_of_le_of_lt (p64_le (show j ≤ K by omega)) (by omega)
/-- What Big returns for the bound z. -/
def BigR (seed : Int) (lab : List UInt8) (i z X Y E : Int) : Prop :=
  (z < 1 ∧ X = 0 ∧ Y = i ∧ E = 1) ∨ (z = 1 ∧ X = 0 ∧ Y = i ∧ E = 0) ∨
  ∃ N k t : Nat, z = (N : Int) ∧ 2 ≤ N ∧ 1 ≤ k ∧ N ≤ p64 k ∧ (∀ j, j < k → p64 j < N) ∧ Taken (tryN seed lab i k) (p64 k - p64 k % N) t ∧ X = ((tryN seed lab i k t % N : Nat) : Int) ∧ Y = i + ((t * k : Nat) : Int) + (k : Int) ∧ E = 0
theorem BigR.uniq {seed : Int} {lab : List UInt8} {i z X Y E X' Y' E' : Int} (h : BigR seed lab i z X Y E) (h' : BigR seed lab i z X' Y' E') : X = X' ∧ Y = Y' ∧ E = E' := by
  rcases h with ⟨a, rfl, rfl, rfl⟩ | ⟨a, rfl, rfl, rfl⟩ | ⟨N, k, t, rfl, n2, k1, b1, b2, ht, rfl, rfl, rfl⟩
  · rcases h' with ⟨a', rfl, rfl, rfl⟩ | ⟨a', _⟩ | ⟨N, k, t, e, n2, _⟩
    · exact ⟨rfl, rfl, rfl⟩
    · omega
    · omega
  · rcases h' with ⟨a', _⟩ | ⟨a', rfl, rfl, rfl⟩ | ⟨N, k, t, e, n2, _⟩
    · omega
    · exact ⟨rfl, rfl, rfl⟩
    · omega
  · rcases h' with ⟨a', _⟩ | ⟨a', _⟩ | ⟨N', k', t', e, n2', k1', b1', b2', ht', rfl, rfl, rfl⟩
    · omega
    · omega
    · obtain rfl : N = N' := by omega
      obtain rfl : k = k' := by
        rcases Nat.lt_trichotomy k k' with h | h | h
        · have := b2' k h; omega
        · exact h
        · have := b2 k' h; omega
      obtain rfl := ht.uniq ht'
      exact ⟨rfl, rfl, rfl⟩
theorem BigR.ok {seed : Int} {lab : List UInt8} {i z X Y E : Int} (h : BigR seed lab i z X Y E) : (E = 0 ∧ 0 ≤ X ∧ X < z) ∨ E = 1 := by
  rcases h with ⟨a, rfl, rfl, rfl⟩ | ⟨a, rfl, rfl, rfl⟩ | ⟨N, k, t, rfl, n2, k1, b1, b2, ht, rfl, rfl, rfl⟩
  · exact .inr rfl
  · exact .inl ⟨rfl, by omega, by omega⟩
  · have := Nat.mod_lt (tryN seed lab i k t) (show 0 < N by omega)
    exact .inl ⟨rfl, by omega, by omega⟩
theorem BigR.small {seed : Int} {lab : List UInt8} {i z X Y E : Int} (h : BigR seed lab i z X Y E) : X.natAbs ≤ z.natAbs := by
  rcases h with ⟨a, rfl, rfl, rfl⟩ | ⟨a, rfl, rfl, rfl⟩ | ⟨N, k, t, rfl, n2, k1, b1, b2, ht, rfl, rfl, rfl⟩
  · simp
  · simp
  · rw [Int.natAbs_natCast, Int.natAbs_natCast]
    exact Nat.le_of_lt (Nat.mod_lt _ (by omega))

theorem wbig_r (seed : Int) (s : ByteArray) (hs : s.size ≤ 1000000) (i : Int) (hi : 0 ≤ i ∧ i ≤ 100000000) (v : Value) (z : Int) (hz : z ≤ ((p64 255 : Nat) : Int)) (w : World) (hv : WI w v z) :
    Calls Tryz.prog 13 #[.int .u64 seed, .string s, .int .i64 i, v] w fun e w' => ∃ sr Ar nr cr X Y E, e = .returned (.tuple #[.agg #[.bool sr, .slice Ar nr cr], .int .i64 Y, .int .i64 E]) ∧ Hid (BigR seed s.data.toList i z X Y E ∧ WI w' (.agg #[.bool sr, .slice Ar nr cr]) X ∧ New w w') := by
  by_cases h1 : z < 1
  · refine (big_neg seed s i v z h1 w hv).mono ?_
    rintro e w1 ⟨rfl, hn⟩
    exact ⟨_, _, _, _, 0, i, 1, rfl, .inl ⟨h1, rfl, rfl, rfl⟩, WI.zero _, hn⟩
  · by_cases h2 : z = 1
    · subst h2
      refine (big_one seed s i v w hv).mono ?_
      rintro e w1 ⟨rfl, hn⟩
      exact ⟨_, _, _, _, 0, i, 0, rfl, .inr (.inl ⟨rfl, rfl, rfl, rfl⟩), WI.zero _, hn⟩
    · obtain ⟨N, rfl⟩ : ∃ N : Nat, z = (N : Int) := ⟨z.toNat, by omega⟩
      obtain ⟨k, hk, hb, hl⟩ := least_k N 255 (by omega)
      have hk1 : 1 ≤ k := by
        rcases Nat.eq_zero_or_pos k with h | h
        · subst h; rw [p64_zero] at hb; omega
        · exact h
      refine (big_ok seed s hs i hi v N k hk1 hk (by omega) hb hl w hv).mono ?_
      rintro e w1 ⟨sr, Ar, nr, cr, t, rfl, H⟩
      exact ⟨sr, Ar, nr, cr, _, _, 0, rfl, .inr (.inr ⟨N, k, t, rfl, by omega, hk1, hb, hl, H.out.1, rfl, rfl, rfl⟩), H.out.2.1, H.out.2.2⟩

theorem res_ctt {P : Program} {fn : Func} {p q r : Tmp} {ty : TypeId} {w : World} {g : Nat} (h : fn.results = #[.cell p ty, .tmp q, .tmp r]) (tmps : Array Value) (hp : tmps.getD p undef = .pointer (some ⟨g, 0, none⟩)) {v u u2 : Value} (hl : (loadVar ty ⟨g, 0, none⟩).run P w = .ok v w) (hq : tmps.getD q undef = u) (hr : tmps.getD r undef = u2) :
    (results fn tmps).run P w = .ok (.tuple #[v, u, u2]) w := by
  have hp' : tmps[p]?.getD undef = .pointer (some ⟨g, 0, none⟩) := by simpa using hp
  have hq' : tmps[q]?.getD undef = u := by simpa using hq
  have hr' : tmps[r]?.getD undef = u2 := by simpa using hr
  simp [results, h, hp', hq', hr', asAddr, hl]

set_option maxRecDepth 100000 in
set_option maxHeartbeats 2000000 in
theorem rbigT_bad (seed : Int) (s : ByteArray) (i : Int) (v : Value) (z : Int) (hz : z < 1) (w : World) (hv : RN w v z) :
    Calls Tryz.prog 14 #[.int .u64 seed, .string s, .int .i64 i, v] w fun e w' => e = .returned (.tuple #[.agg #[.bool false, .slice none 0 0], .int .i64 i, .int .i64 1]) ∧ New w w' := by
  obtain ⟨s0, A0, n0, c0, rfl, hs0, hm0⟩ := hv
  by_cases h0 : z < 0
  · obtain rfl : s0 = true := by rw [hs0]; simpa using h0
    clear hs0 hm0
    go_enter Tryz.func14, Tryz.ntmps14
    go_wp2
    have hb : Blk ((w.alloc (.cells #[.bool true, .slice A0 n0 c0] 26)).alloc (.cells #[.bool false, .slice none 0 0] 26)) (w.heap.size + 1) 26 #[.bool false, .slice none 0 0] := by
      have := Blk.new (w.alloc (.cells #[.bool true, .slice A0 n0 c0] 26)) 26 #[.bool false, .slice none 0 0]
      rwa [World.size_alloc] at this
    exact bodyPost_ret (res_ctt rfl _ rfl (aggN.load hb) rfl rfl) rfl ⟨rfl, ((Chg.refl _ w).alloc _).alloc _⟩
  · obtain rfl : z = 0 := by omega
    obtain rfl : s0 = false := by rw [hs0]; rfl
    have hn0 : n0 = 0 := by
      have := hm0.len (k := 0) (by simp)
      omega
    subst hn0
    clear hs0 hm0
    go_enter Tryz.func14, Tryz.ntmps14
    go_wp2
    have hb : Blk ((w.alloc (.cells #[.bool false, .slice A0 0 c0] 26)).alloc (.cells #[.bool false, .slice none 0 0] 26)) (w.heap.size + 1) 26 #[.bool false, .slice none 0 0] := by
      have := Blk.new (w.alloc (.cells #[.bool false, .slice A0 0 c0] 26)) 26 #[.bool false, .slice none 0 0]
      rwa [World.size_alloc] at this
    exact bodyPost_ret (res_ctt rfl _ rfl (aggN.load hb) rfl rfl) rfl ⟨rfl, ((Chg.refl _ w).alloc _).alloc _⟩

set_option maxRecDepth 100000 in
set_option maxHeartbeats 4000000 in
theorem rbigT_ok (seed : Int) (s : ByteArray) (hs : s.size ≤ 1000000) (i : Int) (hi : 0 ≤ i ∧ i ≤ 1000000000) (v : Value) (N k : Nat) (hk : k ≤ 255) (hN1 : 1 ≤ N) (hN : N ≤ p64 k) (hl : ∀ j, j < k → p64 j < N) (w : World) (hv : RN w v (N : Int)) :
    Calls Tryz.prog 14 #[.int .u64 seed, .string s, .int .i64 i, v] w fun e w' => ∃ sr Ar nr cr X Y, e = .returned (.tuple #[.agg #[.bool sr, .slice Ar nr cr], .int .i64 Y, .int .i64 0]) ∧ Hid (BigR seed s.data.toList i N X Y 0 ∧ RN w' (.agg #[.bool sr, .slice Ar nr cr]) X ∧ New w w') := by
  have hv0 := hv
  obtain ⟨s0, A0, n0, c0, rfl, hs0, hm0⟩ := hv
  obtain rfl : s0 = false := by rw [hs0]; simp
  have hn0 : ((n0 : Int) == 0) = false := by
    have : n0 ≠ 0 := fun e => by
      subst e
      have := hm0.lt (k := 0) (Nat.le_refl _)
      simp at this
      omega
    simp; omega
  have HV := Lib.hid (And.intro hv0 (And.intro hN hl))
  have HI := Lib.hid hi
  clear hs0 hm0 hv0 hN hl hi
  go_enter Tryz.func14, Tryz.ntmps14
  go_wp2_with fail
  clear hn0
  refine Code.new2 ?_
  intro W hb7 hb8 hn hz
  obtain ⟨g7, hg7⟩ : ∃ x, w.heap.size = x := ⟨_, rfl⟩
  obtain ⟨g8, hg8⟩ : ∃ x, w.heap.size + 1 = x := ⟨_, rfl⟩
  rw [hg7] at hb7
  rw [hg8] at hb8
  simp only [hg8]
  simp only [hg7]
  have hgs : w.heap.size ≤ g7 ∧ g7 < g8 := by omega
  have HG := Lib.hid hgs
  have HB := Lib.hid (And.intro hb7 (And.intro hb8 hn))
  clear hb7 hb8 hn hz hg7 hg8 hgs
  go_loopw [11] (fun u wr => ∃ j : Nat, u = .int .i64 (j : Int) ∧ j ≤ k ∧ Hid (Blk wr g7 26 #[.bool false, .slice A0 n0 c0] ∧ Blk wr g8 26 #[.bool false, .slice none 0 0] ∧ New w wr)) (fun u _ => 300 - (intOf u).toNat)
  case atStart => exact ⟨0, rfl, by omega, HB.out⟩
  case round =>
    clear HB
    obtain ⟨j, rfl, hj, HJ⟩ := hrel
    obtain ⟨wo, rfl⟩ : ∃ wo : World, wo = wr := ⟨_, rfl⟩
    obtain ⟨K, hK⟩ : ∃ K, 64 * j = K := ⟨_, rfl⟩
    have hKi : IntKind.i64.wrap (64 * (j : Int)) = (K : Int) := by rw [IntWalk.i64_in _ (by omega)]; omega
    have hpw := fun W => power_h K (by omega) W
    rw [← hK, ← p64_two, hK] at hpw
    have hcp : ∀ W' v, New wo W' → RN W' v ((p64 j : Nat) : Int) → Calls Tryz.prog 33 #[v, .agg #[.bool false, .slice A0 n0 c0]] W' fun e w' => e = .returned (.int .i64 (cmpI ((p64 j : Nat) : Int) (N : Int))) ∧ New W' w' := fun W' v h hv' => rcompare_any v _ _ _ W' hv' (HV.out.1.new (HJ.out.2.2.new h))
    obtain ⟨C, hC⟩ : ∃ C, cmpI ((p64 j : Nat) : Int) (N : Int) = C := ⟨_, rfl⟩
    rw [hC] at hcp
    have hCl : decide (C < 0) = decide (p64 j < N) := by
      rw [← hC]
      unfold cmpI
      by_cases h : p64 j < N
      · rw [if_pos (by omega)]; simp [h]
      · rw [if_neg (by omega)]
        split <;> simp [h]
    have HC := Lib.hid (And.intro hpw hcp)
    clear hpw hcp hC hK
    have hc0 := HJ.out.1.cell 0 (u := .bool false) rfl
    have hc1 := HJ.out.1.cell 1 (u := .slice A0 n0 c0) rfl
    have hN0 : New wo wo.drew := (Chg.refl _ _).drew
    have hsk : ∀ w', New wo w' → w'.cell? ⟨g7, 0, none⟩ = some (.bool false) ∧ w'.cell? ⟨g7, 1, none⟩ = some (.slice A0 n0 c0) := fun w' h => ⟨(HJ.out.1.chg h (fun h => h)).cell 0 rfl, (HJ.out.1.chg h (fun h => h)).cell 1 rfl⟩
    have HSK := Lib.hid hsk
    clear hsk
    by_cases hjk : j < k
    · have hCt : C < 0 := by have := HV.out.2.2 j hjk; simpa [this] using hCl
      clear hCl
      go_wp2_with fail
      go_region_held3 (fun w' => w'.cell? ⟨g7, 0, none⟩ = some (.bool false) ∧ w'.cell? ⟨g7, 1, none⟩ = some (.slice A0 n0 c0)) (first | exact HSK.out _ (by assumption) | exact HSK.out _ (Chg.refl _ _))
        (first
          | (go_at_call 9; (with_reducible refine (HC.out.1 _).mono ?_); rintro e q1 ⟨s1, A1, n1, c1, rfl, Q1⟩; have hM1 := hN0.new Q1.out.2)
          | (go_at_call 33; (with_reducible refine (HC.out.2 _ _ hM1 Q1.out.1).mono ?_); rintro e q2 ⟨rfl, Q2⟩; have hM2 := hM1.new Q2))
      have HE := Lib.hid hM2
      clear hc0 hc1 hN0 hM1 hM2 Q1 Q2 HSK
      go_wp2
      go_roundw
      case rel => exact ⟨j + 1, by go_num, by omega, HJ.out.1.chg HE.out (fun h => h), HJ.out.2.1.chg HE.out (fun h => h), HJ.out.2.2.new HE.out⟩
      case measure => simp [intOf]; omega
    · obtain rfl : j = k := by omega
      have hCt : decide (C < 0) = false := by have := HV.out.2.1; rw [hCl]; simpa using this
      have hk255 : decide ((255 : Int) < (j : Int)) = false := by simp; omega
      clear hCl
      go_wp2_with fail
      go_region_held3 (fun w' => w'.cell? ⟨g7, 0, none⟩ = some (.bool false) ∧ w'.cell? ⟨g7, 1, none⟩ = some (.slice A0 n0 c0)) (first | exact HSK.out _ (by assumption) | exact HSK.out _ (Chg.refl _ _))
        (first
          | (go_at_call 9; (with_reducible refine (HC.out.1 _).mono ?_); rintro e q1 ⟨s1, A1, n1, c1, rfl, Q1⟩; have hM1 := hN0.new Q1.out.2)
          | (go_at_call 33; (with_reducible refine (HC.out.2 _ _ hM1 Q1.out.1).mono ?_); rintro e q2 ⟨rfl, Q2⟩; have hM2 := hM1.new Q2))
      have HE := Lib.hid (And.intro (HJ.out.1.chg hM2 (fun h => h)) (And.intro (HJ.out.2.1.chg hM2 (fun h => h)) (HJ.out.2.2.new hM2)))
      clear hc0 hc1 hN0 hM1 hM2 Q1 Q2 HSK HJ HC
      have c80 := HE.out.2.1.cell 0 (u := .bool false) rfl
      have c81 := HE.out.2.1.cell 1 (u := .slice none 0 0) rfl
      have f80 := HE.out.2.1.frozen 0
      have f81 := HE.out.2.1.frozen 1
      by_cases h0 : j = 0
      · subst h0
        go_wp2
        obtain ⟨e7, e8, hn⟩ := HE.out
        have hN' := HV.out.2.1
        rw [p64_zero] at hN'
        refine bodyPost_ret (res_ctt rfl _ rfl (aggN.load (e8.set2 _ _)) rfl rfl) rfl ⟨_, _, _, _, 0, i, rfl, .inr (.inl ⟨by omega, rfl, rfl, rfl⟩), RN.zero _, ?_⟩
        exact Chg.owned hn (Chg.at2 _ _ _ _) (fun b e => by have := HG.out; omega)
      · have hj0 : ((j : Int) == 0) = false := by simp; omega
        have c70 := HE.out.1.cell 0 (u := .bool false) rfl
        have c71 := HE.out.1.cell 1 (u := .slice A0 n0 c0) rfl
        clear c80 c81 f80 f81
        go_wp2_with fail
        have hNt : N < 2 ^ 900000 := by have := top_big (Nat.lt_of_le_of_lt HV.out.2.1 (p64_top hk)) 900000 (by decide); rwa [Int.natAbs_natCast] at this
        refine (rbig_any seed s hs i HI.out _ N hN1 hNt j (by omega) q2 (HV.out.1.new HE.out.2.2)).mono ?_
        clear hNt
        rintro e w3 ⟨s3, A3, n3, c3, t, rfl, H3⟩
        have hnn : New q2 ((w3.alloc (.cells #[.bool s3, .slice A3 n3 c3] 26))) := H3.out.2.2.alloc _
        have e8 := HE.out.2.1.chg hnn (fun h => h)
        have c80 := e8.cell 0 (u := .bool false) rfl
        have c81 := e8.cell 1 (u := .slice none 0 0) rfl
        have f80 := e8.frozen 0
        have f81 := e8.frozen 1
        have l8 := e8.lt
        have hr3 : RN (w3.alloc (.cells #[.bool s3, .slice A3 n3 c3] 26)) (.agg #[.bool s3, .slice A3 n3 c3]) ((tryN seed s.data.toList i j t % N : Nat) : Int) := H3.out.2.1.new ((Chg.refl (fun _ => False) w3).alloc _)
        have HF := Lib.hid (And.intro e8 (And.intro (HE.out.2.2.new hnn) hr3))
        clear c70 c71 hnn e8 hr3
        go_wp2
        obtain ⟨e8, hn, hr3⟩ := HF.out
        generalize w3.alloc (.cells #[.bool s3, .slice A3 n3 c3] 26) = V at *
        have hch := Chg.at2 V g8 (.bool s3) (.slice A3 n3 c3)
        have htk := H3.out.1
        rw [← p64_two] at htk
        have hN2 : 2 ≤ N := by have := HV.out.2.2 0 (by omega); rw [p64_zero] at this; omega
        refine bodyPost_ret (res_ctt rfl _ rfl (aggN.load (e8.set2 _ _)) rfl rfl) rfl ⟨s3, A3, n3, c3, _, _, rfl, .inr (.inr ⟨N, j, t, rfl, hN2, by omega, HV.out.2.1, HV.out.2.2, htk, rfl, rfl, rfl⟩), hr3.store e8 (noInt_two' _ _ _ _) hch, ?_⟩
        exact Chg.owned hn hch (fun b e => by have := HG.out; omega)

theorem rbig_r (seed : Int) (s : ByteArray) (hs : s.size ≤ 1000000) (i : Int) (hi : 0 ≤ i ∧ i ≤ 1000000000) (v : Value) (z : Int) (hz : z ≤ ((p64 255 : Nat) : Int)) (w : World) (hv : RN w v z) :
    Calls Tryz.prog 14 #[.int .u64 seed, .string s, .int .i64 i, v] w fun e w' => ∃ sr Ar nr cr X Y E, e = .returned (.tuple #[.agg #[.bool sr, .slice Ar nr cr], .int .i64 Y, .int .i64 E]) ∧ Hid (BigR seed s.data.toList i z X Y E ∧ RN w' (.agg #[.bool sr, .slice Ar nr cr]) X ∧ New w w') := by
  by_cases h1 : z < 1
  · refine (rbigT_bad seed s i v z h1 w hv).mono ?_
    rintro e w1 ⟨rfl, hn⟩
    exact ⟨_, _, _, _, 0, i, 1, rfl, .inl ⟨h1, rfl, rfl, rfl⟩, RN.zero _, hn⟩
  · obtain ⟨N, rfl⟩ : ∃ N : Nat, z = (N : Int) := ⟨z.toNat, by omega⟩
    obtain ⟨k, hk, hb, hl⟩ := least_k N 255 (by omega)
    refine (rbigT_ok seed s hs i hi v N k hk (by omega) hb hl w hv).mono ?_
    rintro e w1 ⟨sr, Ar, nr, cr, X, Y, rfl, H⟩
    exact ⟨sr, Ar, nr, cr, X, Y, 0, rfl, H.out⟩
end Go.Proofs.YtmpkaimhjdkheaaGreatDoor
