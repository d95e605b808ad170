/- Contracts of refuterref03: normal, Of, compared, Compare, at. -/
import Derived.Test.YtcjbndlhomokpaaPureDig2
import Derived.Test.YtcjbndlhomokpaaBase
import Derived.Test.YtcjbndlhomokpaaMemMk
import Derived.Test.YtcjbndlhomokpaaMemRes
namespace Go.Proofs.Ytcjbndlhomokpaa
set_option linter.unusedVariables false
open Go.RowKit Go.Mem Go.Dig

theorem noInt_two' (s : Bool) (A : Option Addr) (n c : Nat) : NoInt (#[Value.bool s, Value.slice A n c] : Array Value).toList := fun k z h => by simp at h
theorem aggN : Agg Try.prog 58 2 := ⟨_, Try.underlying58, rfl, by kernel_rfl⟩
/-- The amount m lies in a slice, in base 10000. -/
def DM (w : World) (A : Option Addr) (n c : Nat) (m : Nat) : Prop := ∃ l, Rd w A n (nv .i64 l) ∧ n ≤ c ∧ c ≤ 9223372036854775807 ∧ Num 10000 l m
theorem DM.new {w w' : World} {A : Option Addr} {n c m : Nat} (h : DM w A n c m) (hn : New w w') : DM w' A n c m := by
  obtain ⟨l, h1, h2⟩ := h
  exact ⟨l, h1.new hn, h2⟩
theorem DM.store {w w' : World} {A : Option Addr} {n c m g : Nat} {t : TypeId} {cs : Array Value} (h : DM w A n c m) (hb : Blk w g t cs) (hi : NoInt cs.toList) (hc : Chg (fun k => k = g) w w') : DM w' A n c m := by
  obtain ⟨l, h1, h2⟩ := h
  refine ⟨l, h1.store hb (fun u hu => ?_) hc, h2⟩
  obtain ⟨z, _, rfl⟩ := List.mem_map.1 hu
  exact hi _ _
theorem DM.zero (w : World) : DM w none 0 0 0 := ⟨[], Rd.nil _ _, Nat.le_refl _, by omega, Num.zero _⟩
theorem DM.pos {w : World} {A : Option Addr} {n c m : Nat} (h : DM w A n c m) : n = 0 ↔ m = 0 := by
  obtain ⟨l, h1, _, _, h4⟩ := h
  rw [← h4.nil_iff (by omega)]
  have := h1.len
  rw [nv_length] at this
  constructor
  · intro h; exact List.eq_nil_of_length_eq_zero (by omega)
  · intro h; subst h; simpa using this.symm
theorem DM.lt {w : World} {A : Option Addr} {n c m : Nat} (h : DM w A n c m) {k : Nat} (hk : n ≤ k) : m < 10000 ^ k := by
  obtain ⟨l, h1, _, _, h4⟩ := h
  exact h4.lt (by omega) (by have := h1.len; rw [nv_length] at this; omega)
theorem DM.len {w : World} {A : Option Addr} {n c m : Nat} (h : DM w A n c m) {k : Nat} (hk : m < 10000 ^ k) : n ≤ k := by
  obtain ⟨l, h1, _, _, h4⟩ := h
  have := h4.len_le (by omega) hk
  have := h1.len
  rw [nv_length] at this
  omega
/-- v is the refuterref03.N z. -/
def RN (w : World) (v : Value) (z : Int) : Prop := ∃ s A n c, v = .agg #[.bool s, .slice A n c] ∧ s = decide (z < 0) ∧ DM w A n c z.natAbs
theorem RN.new {w w' : World} {v : Value} {z : Int} (h : RN w v z) (hn : New w w') : RN w' v z := by
  obtain ⟨s, A, n, c, h1, h2, h3⟩ := h
  exact ⟨s, A, n, c, h1, h2, h3.new hn⟩
theorem RN.store {w w' : World} {v : Value} {z : Int} {g : Nat} {t : TypeId} {cs : Array Value} (h : RN w v z) (hb : Blk w g t cs) (hi : NoInt cs.toList) (hc : Chg (fun k => k = g) w w') : RN w' v z := by
  obtain ⟨s, A, n, c, h1, h2, h3⟩ := h
  exact ⟨s, A, n, c, h1, h2, h3.store hb hi hc⟩
theorem RN.zero (w : World) : RN w (.agg #[.bool false, .slice none 0 0]) 0 := ⟨_, _, _, _, rfl, rfl, DM.zero w⟩

set_option maxHeartbeats 1000000 in
theorem normal_any (s : Bool) (A : Option Addr) (n c : Nat) (l : List Nat) (w : World) (hr : Rd w A n (nv .i64 l)) (hnc : n ≤ c) (hc : c ≤ 9223372036854775807) :
    Calls Try.prog 57 #[.bool s, .slice A n c] w fun e w' => e = .returned (.agg #[.bool (s && decide (0 < (Dig.trim l).length)), .slice A (Dig.trim l).length c]) ∧ New w w' := by
  have hl : l.length = n := by have := hr.len; rwa [nv_length] at this
  obtain ⟨T, hT⟩ : ∃ T, (Dig.trim l).length = T := ⟨_, rfl⟩
  rw [hT]
  obtain ⟨b, hb⟩ : ∃ b, (s && decide (0 < T)) = b := ⟨_, rfl⟩
  rw [hb]
  have H0 := Lib.hid (And.intro hl (And.intro hr (And.intro hT hb)))
  clear hl hr hT hb
  have hup := fun (k : Nat) (i : Int) (hi : i = (k : Int)) (m : Nat) (hk : k ≤ c) (W : World) => run_upto elemInts .i64 A m c k i hi hk W
  have HUP := Lib.hid hup
  clear hup
  go_enter Try.func57, Try.ntmps57
  go_wp2
  obtain ⟨W, hW⟩ : ∃ W, w.alloc (.cells #[.bool false, .slice none 0 0] 58) = W := ⟨_, rfl⟩
  have HB : Hid (Blk W w.heap.size 58 #[.bool false, .slice none 0 0] ∧ New w W) := by rw [← hW]; exact ⟨Blk.new _ _ _, (Chg.refl _ w).alloc _⟩
  rw [hW]
  clear hW
  go_loopw [1] (fun v wr => ∃ k : Nat, v = .slice A k c ∧ k ≤ n ∧ Hid ((Dig.trim (l.take k)).length = T) ∧ wr = W) (fun v _ => match v with | .slice _ k _ => k | _ => 0)
  case atStart =>
    obtain ⟨hl, hr, hT, hb⟩ := H0.out
    exact ⟨n, rfl, Nat.le_refl _, by show _ = _; rw [List.take_of_length_le (by omega), hT], rfl⟩
  case round =>
    obtain ⟨k, rfl, hk, HK, rfl⟩ := hrel
    have hc0 := HB.out.1.cell 0 (u := .bool false) rfl
    have hc1 := HB.out.1.cell 1 (u := .slice none 0 0) rfl
    have hf0 := HB.out.1.frozen 0
    have hf1 := HB.out.1.frozen 1
    by_cases h0 : k = 0
    · subst h0
      have hTk : T = 0 := by
        have := HK.out
        simp [Dig.trim] at this
        omega
      have hbv : b = false := by
        have hb := H0.out.2.2.2
        rw [← hb, hTk]; simp
      subst hTk
      subst hbv
      cases s
      all_goals
        go_wp2
        refine bodyPost_ret (res_c rfl _ rfl (aggN.load (HB.out.1.set2 _ _))) rfl ⟨rfl, ?_⟩
        exact Chg.owned HB.out.2 (Chg.at2 _ _ _ _) (fun k e => by omega)
    · obtain ⟨j, rfl⟩ : ∃ j, k = j + 1 := ⟨k - 1, by omega⟩
      have hpos : decide ((0 : Int) < ((j + 1 : Nat) : Int)) = true := by simp
      obtain ⟨hl, hr, hT, hb⟩ := H0.out
      have hr2 := hr.new HB.out.2
      obtain ⟨ad, u, rfl, hu, hcu⟩ := hr2.at_ (show j < n by omega)
      obtain ⟨z, hz, rfl⟩ := nv_at hu
      have HZ := Lib.hid hz
      clear hl hr hr2 hT hb hu hz
      by_cases hz0 : z = 0
      · subst hz0
        have hup := HUP.out j ((j + 1 : Nat) - 1 : Int) (by omega) (j + 1) (by omega)
        go_wp2
        go_roundw
        case rel => exact ⟨j, rfl, by omega, by show _ = _; rw [← HK.out, trim_step HZ.out rfl], trivial⟩
        case measure => simp
      · have hzb : ((z : Int) == 0) = false := by simp; omega
        have hTk : T = j + 1 := by
          have := HK.out
          rw [trim_stop HZ.out hz0, List.length_take, Nat.min_eq_left (by have := H0.out.1; omega)] at this
          omega
        have hbv : b = s := by
          have hb := H0.out.2.2.2
          rw [← hb, hTk]; simp
        subst hTk
        subst hbv
        cases b
        all_goals
          go_wp2
          refine bodyPost_ret (res_c rfl _ rfl (aggN.load (HB.out.1.set2 _ _))) rfl ⟨rfl, ?_⟩
          exact Chg.owned HB.out.2 (Chg.at2 _ _ _ _) (fun k e => by omega)

/-- normal: the sign and any digits. -/
theorem normal_rn (s : Bool) (A : Option Addr) (n c : Nat) (l : List Nat) (w : World) (hr : Rd w A n (nv .i64 l)) (hd : Digs 10000 l) (hnc : n ≤ c) (hc : c ≤ 9223372036854775807) :
    Calls Try.prog 57 #[.bool s, .slice A n c] w fun e w' => ∃ v, e = .returned v ∧ RN w' v (sg s (val 10000 l)) ∧ New w w' := by
  refine (normal_any s A n c l w hr hnc hc).mono ?_
  rintro e w' ⟨rfl, hn⟩
  have hN := Num.of_trim hd
  have hll : l.length = n := by have := hr.len; rwa [nv_length] at this
  have hlen := trim_len l
  refine ⟨_, rfl, ⟨_, _, _, _, rfl, ?_, Dig.trim l, ?_, by omega, hc, ?_⟩, hn⟩
  · rw [sg_neg]
    congr 1
    rw [decide_eq_decide]
    have := hN.nil_iff (by omega)
    constructor
    · intro h
      rcases Nat.eq_zero_or_pos (val 10000 l) with h1 | h1
      · rw [this.2 h1] at h; simp at h
      · exact h1
    · intro h
      rcases Nat.eq_zero_or_pos (Dig.trim l).length with h1 | h1
      · have := this.1 (List.eq_nil_of_length_eq_zero h1); omega
      · exact h1
  · have := (hr.new hn).take (k := (Dig.trim l).length) (by omega)
    rw [nv_take, ← trim_take] at this
    exact this
  · rw [sg_abs]; exact hN

/-- Digits of n, one after another. -/
structure OfI (n m i : Nat) (o : List Nat) : Prop where
  len : o.length = i
  digs : Digs 10000 o
  eq : val 10000 o + 10000 ^ i * m = n
theorem OfI.step {n m i : Nat} {o : List Nat} (h : OfI n m i o) : OfI n (m / 10000) (i + 1) (o ++ [m % 10000]) := by
  refine ⟨by simp [h.len], h.digs.snoc (Nat.mod_lt _ (by omega)), ?_⟩
  rw [val_snoc, h.len, Nat.pow_succ, Nat.mul_assoc, Nat.add_assoc, ← Nat.mul_add, Nat.mod_add_div]
  exact h.eq
theorem tmod_neg' (m : Nat) : (-(m : Int)).tmod 10000 = -((m % 10000 : Nat) : Int) := by rw [Int.neg_tmod, Int.tmod_eq_emod_of_nonneg (by omega)]; simp
theorem tdiv_neg' (m : Nat) : (-(m : Int)).tdiv 10000 = -((m / 10000 : Nat) : Int) := by rw [Int.neg_tdiv, Int.tdiv_eq_ediv_of_nonneg (by omega)]; simp

set_option maxHeartbeats 2000000 in
theorem of_any (n : Int) (w : World) (h1 : -9223372036854775808 ≤ n) (h2 : n ≤ 9223372036854775807) :
    Calls Try.prog 33 #[.int .i64 n] w fun e w' => ∃ v, e = .returned v ∧ RN w' v n ∧ New w w' := by
  obtain ⟨M, hM⟩ : ∃ M : Nat, n.natAbs = M := ⟨_, rfl⟩
  have hMb : M ≤ 9223372036854775808 := by omega
  have hM5 : M < 10000 ^ (5 - 0) := Nat.lt_of_le_of_lt hMb (by decide)
  by_cases h : n < 0
  · obtain rfl : n = -(M : Int) := by omega
    have hMp : 0 < M := by omega
    clear hM
    go_enter Try.func33, Try.ntmps33
    go_wp2
    obtain ⟨W, hW⟩ : ∃ W, w.alloc (.cells #[.bool false, .slice none 0 0] 58) = W := ⟨_, rfl⟩
    have HB : Hid (Blk W w.heap.size 58 #[.bool false, .slice none 0 0] ∧ New w W) := by rw [← hW]; exact ⟨Blk.new _ _ _, (Chg.refl _ w).alloc _⟩
    rw [hW]
    clear hW
    go_loopw [0, 3] (fun v d wr => ∃ m i : Nat, ∃ A c o, v = .int .i64 (-(m : Int)) ∧ m ≤ 9223372036854775808 ∧ i ≤ 5 ∧ d = .slice A i c ∧ Hid (m < 10000 ^ (5 - i) ∧ OfI M m i o ∧ wr.ownsRow W.heap.size 3 1 (.slice A i c) i (nv .i64 o) ∧ New W wr)) (fun v _ _ => (-(intOf v)).toNat)
    case atStart => exact ⟨M, 0, none, 0, [], rfl, by omega, by omega, rfl, hM5, ⟨rfl, Digs.nil _, by simp⟩, World.ownsRow_nil _ _ _ _, Chg.refl _ _⟩
    case round =>
      obtain ⟨m, i, A, c, o, rfl, hm, hi, rfl, HO⟩ := hrel
      by_cases hm0 : m = 0
      · subst hm0
        go_wp2_with fail
        obtain ⟨_, hO, ho, hn⟩ := HO.out
        have hcap := own_cap ho
        refine (normal_rn true A i c o wr (Rd.of_own ho) hO.digs hcap.1 hcap.2).mono ?_
        rintro e w2 ⟨v, rfl, ⟨s2, A2, n2, c2, rfl, hs2, hm2⟩, hn2⟩
        have hval : sg true (val 10000 o) = -(M : Int) := by have := hO.eq; unfold sg; simp at this ⊢; omega
        rw [hval] at hs2 hm2
        have hb2 := (HB.out.1.chg hn (fun h => h)).chg hn2 (fun h => h)
        have hc0 := hb2.cell 0 (u := .bool false) rfl
        have hc1 := hb2.cell 1 (u := .slice none 0 0) rfl
        have hf0 := hb2.frozen 0
        have hf1 := hb2.frozen 1
        have H2 := Lib.hid (And.intro hb2 (And.intro (HB.out.2.new (hn.new hn2)) (And.intro hs2 hm2)))
        clear hO ho hn hcap hn2 hs2 hm2 hval hb2 HO
        go_wp2
        obtain ⟨hb2, hn2, hs2, hm2⟩ := H2.out
        refine bodyPost_ret (res_c rfl _ rfl (aggN.load (hb2.set2 _ _))) rfl ⟨_, rfl, ⟨s2, A2, n2, c2, rfl, hs2, hm2.store hb2 (noInt_two' _ _ _ _) (Chg.at2 _ _ _ _)⟩, ?_⟩
        exact Chg.owned hn2 (Chg.at2 _ _ _ _) (fun k e => by omega)
      · have hi5 : i < 5 := by
          rcases Nat.lt_or_ge i 5 with h | h
          · exact h
          · have := HO.out.1
            rw [show 5 - i = 0 by omega] at this
            omega
        have hne : ((-(m : Int)) != 0) = true := by simp; omega
        obtain ⟨d, hd⟩ : ∃ d, m % 10000 = d := ⟨_, rfl⟩
        obtain ⟨q, hq⟩ : ∃ q, m / 10000 = q := ⟨_, rfl⟩
        have hqm : q < m := by omega
        have hdb : d < 10000 := by omega
        have htm : (-(m : Int)).tmod 10000 = -(d : Int) := by rw [tmod_neg', hd]
        have htd : (-(m : Int)).tdiv 10000 = -(q : Int) := by rw [tdiv_neg', hq]
        have HN : Hid (q < 10000 ^ (5 - (i + 1)) ∧ OfI M q (i + 1) (o ++ [d])) := by
          obtain ⟨h1, hO, _⟩ := HO.out
          refine ⟨?_, by rw [← hd, ← hq]; exact hO.step⟩
          rw [← hq, Nat.div_lt_iff_lt_mul (by omega), ← Nat.pow_succ]
          show m < 10000 ^ (5 - (i + 1) + 1)
          rw [show 5 - (i + 1) + 1 = 5 - i by omega]
          exact h1
        clear hd hq
        by_cases hd0 : d = 0
        · replace htm : (-(m : Int)).tmod 10000 = (d : Int) := by rw [htm]; omega
          have hdn : decide ((d : Int) < 0) = false := by simp
          clear hd0
          go_wp2_with (at_builtin; refine wpList_app elemInts rfl _ _ rfl rfl (HO.out.2.2.1.alloc _) rfl (Rd.lit (nv .i64 [d]) rfl) (nv_one _) (by simp only [maxLen]; omega) (by omega) (by have := HO.out.2.2.2.size; simp; omega) ?_; intro A' c' w1 hown hg hat; have HA := Lib.hid (And.intro hown hg); clear hown hg hat)
          go_roundw
          case rel =>
            obtain ⟨hown, hg⟩ := HA.out
            rw [← nv_append] at hown
            refine ⟨q, i + 1, A', c', o ++ [d], rfl, by omega, by omega, rfl, HN.out.1, HN.out.2, hown, ?_⟩
            exact (HO.out.2.2.2.alloc _).grown hg (fun k hk hlt => by have := own_blk_le HO.out.2.2.1 hk; omega)
          case measure => simp [intOf]; omega
        · have hdn : -(d : Int) < 0 := by omega
          go_wp2_with (at_builtin; refine wpList_app elemInts rfl _ _ rfl rfl (HO.out.2.2.1.alloc _) rfl (Rd.lit (nv .i64 [d]) rfl) (nv_one _) (by simp only [maxLen]; omega) (by omega) (by have := HO.out.2.2.2.size; simp; omega) ?_; intro A' c' w1 hown hg hat; have HA := Lib.hid (And.intro hown hg); clear hown hg hat)
          go_roundw
          case rel =>
            obtain ⟨hown, hg⟩ := HA.out
            rw [← nv_append] at hown
            refine ⟨q, i + 1, A', c', o ++ [d], rfl, by omega, by omega, rfl, HN.out.1, HN.out.2, hown, ?_⟩
            exact (HO.out.2.2.2.alloc _).grown hg (fun k hk hlt => by have := own_blk_le HO.out.2.2.1 hk; omega)
          case measure => simp [intOf]; omega
  · obtain rfl : n = (M : Int) := by omega
    have hMb2 : M ≤ 9223372036854775807 := by omega
    have hdec : decide ((M : Int) < 0) = false := by simp
    clear hM
    go_enter Try.func33, Try.ntmps33
    go_wp2
    obtain ⟨W, hW⟩ : ∃ W, w.alloc (.cells #[.bool false, .slice none 0 0] 58) = W := ⟨_, rfl⟩
    have HB : Hid (Blk W w.heap.size 58 #[.bool false, .slice none 0 0] ∧ New w W) := by rw [← hW]; exact ⟨Blk.new _ _ _, (Chg.refl _ w).alloc _⟩
    rw [hW]
    clear hW
    go_loopw [0, 3] (fun v d wr => ∃ m i : Nat, ∃ A c o, v = .int .i64 (m : Int) ∧ m ≤ 9223372036854775807 ∧ i ≤ 5 ∧ d = .slice A i c ∧ Hid (m < 10000 ^ (5 - i) ∧ OfI M m i o ∧ wr.ownsRow W.heap.size 3 1 (.slice A i c) i (nv .i64 o) ∧ New W wr)) (fun v _ _ => (intOf v).toNat)
    case atStart => exact ⟨M, 0, none, 0, [], rfl, by omega, by omega, rfl, hM5, ⟨rfl, Digs.nil _, by simp⟩, World.ownsRow_nil _ _ _ _, Chg.refl _ _⟩
    case round =>
      obtain ⟨m, i, A, c, o, rfl, hm, hi, rfl, HO⟩ := hrel
      by_cases hm0 : m = 0
      · subst hm0
        go_wp2_with fail
        obtain ⟨_, hO, ho, hn⟩ := HO.out
        have hcap := own_cap ho
        refine (normal_rn false A i c o wr (Rd.of_own ho) hO.digs hcap.1 hcap.2).mono ?_
        rintro e w2 ⟨v, rfl, ⟨s2, A2, n2, c2, rfl, hs2, hm2⟩, hn2⟩
        have hval : sg false (val 10000 o) = (M : Int) := by have := hO.eq; unfold sg; simp at this ⊢; omega
        rw [hval] at hs2 hm2
        have hb2 := (HB.out.1.chg hn (fun h => h)).chg hn2 (fun h => h)
        have hc0 := hb2.cell 0 (u := .bool false) rfl
        have hc1 := hb2.cell 1 (u := .slice none 0 0) rfl
        have hf0 := hb2.frozen 0
        have hf1 := hb2.frozen 1
        have H2 := Lib.hid (And.intro hb2 (And.intro (HB.out.2.new (hn.new hn2)) (And.intro hs2 hm2)))
        clear hO ho hn hcap hn2 hs2 hm2 hval hb2 HO
        go_wp2
        obtain ⟨hb2, hn2, hs2, hm2⟩ := H2.out
        refine bodyPost_ret (res_c rfl _ rfl (aggN.load (hb2.set2 _ _))) rfl ⟨_, rfl, ⟨s2, A2, n2, c2, rfl, hs2, hm2.store hb2 (noInt_two' _ _ _ _) (Chg.at2 _ _ _ _)⟩, ?_⟩
        exact Chg.owned hn2 (Chg.at2 _ _ _ _) (fun k e => by omega)
      · have hi5 : i < 5 := by
          rcases Nat.lt_or_ge i 5 with h | h
          · exact h
          · have := HO.out.1
            rw [show 5 - i = 0 by omega] at this
            omega
        have hne : ((m : Int) != 0) = true := by simp; omega
        obtain ⟨d, hd⟩ : ∃ d, m % 10000 = d := ⟨_, rfl⟩
        obtain ⟨q, hq⟩ : ∃ q, m / 10000 = q := ⟨_, rfl⟩
        have hqm : q < m := by omega
        have hdb : d < 10000 := by omega
        have htm : (m : Int) % 10000 = (d : Int) := by omega
        have htd : (m : Int) / 10000 = (q : Int) := by omega
        have hdn : decide ((d : Int) < 0) = false := by simp
        have HN : Hid (q < 10000 ^ (5 - (i + 1)) ∧ OfI M q (i + 1) (o ++ [d])) := by
          obtain ⟨h1, hO, _⟩ := HO.out
          refine ⟨?_, by rw [← hd, ← hq]; exact hO.step⟩
          rw [← hq, Nat.div_lt_iff_lt_mul (by omega), ← Nat.pow_succ]
          show m < 10000 ^ (5 - (i + 1) + 1)
          rw [show 5 - (i + 1) + 1 = 5 - i by omega]
          exact h1
        clear hd hq
        go_wp2_with (at_builtin; refine wpList_app elemInts rfl _ _ rfl rfl (HO.out.2.2.1.alloc _) rfl (Rd.lit (nv .i64 [d]) rfl) (nv_one _) (by simp only [maxLen]; omega) (by omega) (by have := HO.out.2.2.2.size; simp; omega) ?_; intro A' c' w1 hown hg hat; have HA := Lib.hid (And.intro hown hg); clear hown hg hat)
        go_roundw
        case rel =>
          obtain ⟨hown, hg⟩ := HA.out
          rw [← nv_append] at hown
          refine ⟨q, i + 1, A', c', o ++ [d], rfl, by omega, by omega, rfl, HN.out.1, HN.out.2, hown, ?_⟩
          exact (HO.out.2.2.2.alloc _).grown hg (fun k hk hlt => by have := own_blk_le HO.out.2.2.1 hk; omega)
        case measure => simp [intOf]; omega
end Go.Proofs.Ytcjbndlhomokpaa
