/- The parts RefB, RefC, RefD, PureText, TextA, WideE, WideF, WideG, PureDig3, WideH, PureDig4, WideI, PureDig5, WideJ, WideK, PureDig6 of the proof, in one text. -/
import Derived.Deep.QuietTactic
import Derived.BigQuiet
import Derived.Deep.RegionWith
import Derived.Deep.RegionHeld3
import Derived.Lib.ItoaNum
import Derived.Lib.Atoi
import Derived.Laws.CopyOwn
import Derived.Test.YtbocpkjajocpiaaGreatDoorB1
set_option linter.unusedSimpArgs false
set_option linter.unusedVariables false

namespace Go.Proofs.YtbocpkjajocpiaaGreatDoor
set_option linter.unusedVariables false
open Go.RowKit Go.Mem Go.Dig

set_option maxRecDepth 100000 in
set_option maxHeartbeats 1000000 in
theorem compared_any (A : Option Addr) (n c : Nat) (A' : Option Addr) (n' c' : Nat) (x y : Nat) (w : World) (hx : DM w A n c x) (hy : DM w A' n' c' y) :
    Calls Tryz.prog 119 #[.slice A n c, .slice A' n' c'] w fun e w' => e = .returned (.int .i64 (cmpI x y)) ∧ ∃ q, w' = w.drewN q := by
  obtain ⟨la, ha, hc1, hc2, hNa⟩ := hx
  obtain ⟨lb, hb, hd1, hd2, hNb⟩ := hy
  have hla : la.length = n := by have := ha.len; rwa [nv_length] at this
  have hlb : lb.length = n' := by have := hb.len; rwa [nv_length] at this
  rcases Nat.lt_trichotomy n n' with h | h | h
  · rw [cmpI_lt (by have := hNa.len_lt (by omega) hNb (by omega); omega)]
    have hlt : (n : Int) < (n' : Int) := by omega
    clear hla hlb ha hb hNa hNb
    go_enter Tryz.func119, Tryz.ntmps119
    go_wp2
    go_ret
    exact ⟨rfl, 0, rfl⟩
  · subst h
    obtain ⟨C, hC⟩ : ∃ C, cmpI x y = C := ⟨_, rfl⟩
    rw [hC]
    have H0 := Lib.hid (And.intro ha (And.intro hb (And.intro hNa (And.intro hNb (And.intro hla (And.intro hlb hC))))))
    clear ha hb hNa hNb hla hlb hC
    go_enter Tryz.func119, Tryz.ntmps119
    go_wp2
    go_loopw [5] (fun i wr => ∃ k : Nat, k ≤ n ∧ i = .int .i64 ((k : Int) - 1) ∧ Hid (la.drop k = lb.drop k) ∧ ∃ q, wr = w.drewN q) (fun i _ => (intOf i + 1).toNat)
    case atStart =>
      obtain ⟨ha, hb, hNa, hNb, hla, hlb, hC⟩ := H0.out
      exact ⟨n, Nat.le_refl _, rfl, by show _ = _; rw [List.drop_of_length_le (by omega), List.drop_of_length_le (by omega)], 0, rfl⟩
    case round =>
      obtain ⟨k, hk, rfl, HD, q, hq⟩ := hrel
      have hnew : New w wr := by rw [hq]; exact (Chg.refl _ w).drewN q
      have HQ := Lib.hid hq
      clear hq
      by_cases h0 : k = 0
      · subst h0
        go_wp2
        go_ret
        obtain ⟨ha, hb, hNa, hNb, hla, hlb, hC⟩ := H0.out
        have e := HD.out
        rw [List.drop_zero, List.drop_zero] at e
        rw [← hC, cmpI_eq (by rw [← hNa.val, ← hNb.val, e])]
        exact ⟨rfl, q, HQ.out⟩
      · obtain ⟨j, rfl⟩ : ∃ j, k = j + 1 := ⟨k - 1, by omega⟩
        obtain ⟨ha, hb, hNa, hNb, hla, hlb, hC⟩ := H0.out
        obtain ⟨ad, u, rfl, hu, hcu⟩ := (ha.new hnew).at_ (show j < n by omega)
        obtain ⟨bd, v, rfl, hv, hcv⟩ := (hb.new hnew).at_ (show j < n by omega)
        obtain ⟨p, hp, rfl⟩ := nv_at hu
        obtain ⟨r, hr, rfl⟩ := nv_at hv
        have HP := Lib.hid (And.intro hp hr)
        have hj1 : (((j + 1 : Nat) : Int) - 1) = (j : Int) := by omega
        rw [hj1]
        clear hj1 ha hb hNa hNb hla hlb hC hu hv hp hr hnew
        rcases Nat.lt_trichotomy p r with h | h | h
        · have hlt : (p : Int) < (r : Int) := by omega
          go_wp2
          go_quiet (fail)
          go_wp2
          go_ret
          obtain ⟨ha, hb, hNa, hNb, hla, hlb, hC⟩ := H0.out
          obtain ⟨hp, hr⟩ := HP.out
          have := val_lt_of hNa.digs (by omega) hp hr HD.out h
          rw [hNa.val, hNb.val] at this
          rw [← hC, cmpI_lt (by omega)]
          exact ⟨rfl, _, by rw [HQ.out, World.drewN_drewN]⟩
        · subst h
          have hlt : decide ((p : Int) < (p : Int)) = false := by simp
          go_wp2
          go_quiet (fail)
          go_wp2
          go_quiet (fail)
          go_wp2
          go_roundw
          case rel =>
            obtain ⟨hp, hr⟩ := HP.out
            exact ⟨j, by omega, by go_num, drop_step hp hr HD.out, _, by rw [HQ.out, World.drewN_drewN]⟩
          case measure => simp [intOf]
        · have hlt : decide ((p : Int) < (r : Int)) = false := by simp; omega
          have hgt : (r : Int) < (p : Int) := by omega
          go_wp2
          go_quiet (fail)
          go_wp2
          go_quiet (fail)
          go_wp2
          go_ret
          obtain ⟨ha, hb, hNa, hNb, hla, hlb, hC⟩ := H0.out
          obtain ⟨hp, hr⟩ := HP.out
          have := val_lt_of hNb.digs (by omega) hr hp HD.out.symm h
          rw [hNa.val, hNb.val] at this
          rw [← hC, cmpI_gt (by omega)]
          exact ⟨rfl, _, by rw [World.drewN_drewN, HQ.out, World.drewN_drewN]⟩
  · rw [cmpI_gt (by have := hNb.len_lt (by omega) hNa (by omega); omega)]
    have hlt : decide ((n : Int) < (n' : Int)) = false := by simp; omega
    have hlt' : decide (n < n') = false := by simp; omega
    have hgt : (n' : Int) < (n : Int) := by omega
    clear hla hlb ha hb hNa hNb
    go_enter Tryz.func119, Tryz.ntmps119
    go_wp2
    go_ret
    exact ⟨rfl, 0, rfl⟩

set_option maxHeartbeats 400000 in
theorem at_any (A : Option Addr) (n c : Nat) (l : List Nat) (i : Nat) (w : World) (hr : Rd w A n (nv .i64 l)) (hn : n ≤ 9223372036854775807) :
    Calls Tryz.prog 145 #[.slice A n c, .int .i64 i] w fun e w' => e = .returned (.int .i64 (dg l i)) ∧ w = w' := by
  have hl : l.length = n := by have := hr.len; rwa [nv_length] at this
  by_cases h : i < n
  · obtain ⟨ad, u, rfl, hu, hcu⟩ := hr.at_ h
    obtain ⟨z, hz, rfl⟩ := nv_at hu
    rw [dg_some hz]
    have hlt : (i : Int) < (n : Int) := by omega
    clear hr hl hu hz
    go_enter Tryz.func145, Tryz.ntmps145
    go_wp2
    go_ret
    exact ⟨rfl, rfl⟩
  · rw [dg_none (by omega)]
    have hlt : decide ((i : Int) < (n : Int)) = false := by simp; omega
    have hlt' : decide (i < n) = false := by simp; omega
    clear hr hl
    go_enter Tryz.func145, Tryz.ntmps145
    go_wp2
    go_ret
    exact ⟨rfl, rfl⟩

/-- A slice of the call's own with digits whose value is m. -/
def OM (w : World) (base : Nat) (A : Option Addr) (n c : Nat) (m : Nat) : Prop := ∃ l, w.ownsRow base 3 1 (.slice A n c) n (nv .i64 l) ∧ Digs 10000 l ∧ val 10000 l = m

set_option maxRecDepth 100000 in
set_option maxHeartbeats 2000000 in
theorem plus_any (A : Option Addr) (n c : Nat) (A' : Option Addr) (n' c' : Nat) (x y : Nat) (w : World) (hx : DM w A n c x) (hy : DM w A' n' c' y) (hn : n ≤ 1000000) (hn' : n' ≤ 1000000) :
    Calls Tryz.prog 118 #[.slice A n c, .slice A' n' c'] w fun e w' => ∃ R k d, e = .returned (.slice R k d) ∧ OM w' w.heap.size R k d (x + y) ∧ New w w' := by
  obtain ⟨la, ha, hc1, hc2, hNa⟩ := hx
  obtain ⟨lb, hb, hd1, hd2, hNb⟩ := hy
  have hla : la.length = n := by have := ha.len; rwa [nv_length] at this
  have hlb : lb.length = n' := by have := hb.len; rwa [nv_length] at this
  have H0 := Lib.hid (And.intro ha (And.intro hb (And.intro hNa (And.intro hNb (And.intro hla hlb)))))
  clear ha hb hNa hNb hla hlb
  go_enter Tryz.func118, Tryz.ntmps118
  go_wp2
  go_loopw [5, 6, 7] (fun v u i wr => ∃ k cr : Nat, ∃ R d o, v = .slice R k d ∧ u = .int .i64 cr ∧ i = .int .i64 k ∧ cr ≤ 1 ∧ k ≤ 1000001 ∧ Hid (AddI 10000 la lb k o cr ∧ wr.ownsRow w.heap.size 3 1 (.slice R k d) k (nv .i64 o) ∧ New w wr)) (fun _ _ i _ => 1000002 - (intOf i).toNat)
  case atStart => exact ⟨0, 0, none, 0, [], rfl, rfl, rfl, by omega, by omega, AddI.start _ _ _, World.ownsRow_nil _ _ _ _, Chg.refl _ _⟩
  case round =>
    obtain ⟨k, cr, R, d, o, rfl, rfl, rfl, hcr, hk, HO⟩ := hrel
    by_cases hgo : k < n ∨ k < n' ∨ 0 < cr
    · have hk1 : k ≤ 1000000 := by
        rcases Nat.lt_or_ge 1000000 k with h | h
        · exfalso
          obtain ⟨ha, hb, hNa, hNb, hla, hlb⟩ := H0.out
          have hcz := HO.out.1.carry0 (m := 1000000) (by omega) hNa.digs hNb.digs (by omega) (by omega) (by omega)
          omega
        · exact h
      have hda : dg la k < 10000 := dg_lt H0.out.2.2.1.digs (by omega) k
      have hdb : dg lb k < 10000 := dg_lt H0.out.2.2.2.1.digs (by omega) k
      have HN := Lib.hid (HO.out.1.step (by omega) H0.out.2.2.1.digs H0.out.2.2.2.1.digs)
      obtain ⟨p, hp⟩ : ∃ p, dg la k = p := ⟨_, rfl⟩
      obtain ⟨r, hr⟩ : ∃ r, dg lb k = r := ⟨_, rfl⟩
      rw [hp] at hda HN
      rw [hr] at hdb HN
      have HPR := Lib.hid (And.intro hp hr)
      clear hp hr
      have hguard : k < n ∨ (¬ k < n ∧ k < n') ∨ (¬ k < n ∧ ¬ k < n' ∧ cr = 1) := by omega
      clear hgo
      rcases hguard with h1 | ⟨h1, h2⟩ | ⟨h1, h2, h3⟩
      · have g1 : decide ((k : Int) < (n : Int)) = true := by simp; omega
        have g1' : decide (k < n) = true := by simp; omega
        go_wp2_with fail
        obtain ⟨ha, hb, hNa, hNb, hla, hlb⟩ := H0.out
        refine (at_any A n c la k wr (ha.new HO.out.2.2) (by omega)).mono ?_
        rw [HPR.out.1]
        rintro e w1 ⟨rfl, rfl⟩
        clear ha hb hNa hNb hla hlb
        go_wp2_with fail
        obtain ⟨ha, hb, hNa, hNb, hla, hlb⟩ := H0.out
        refine (at_any A' n' c' lb k wr (hb.new HO.out.2.2) (by omega)).mono ?_
        rw [HPR.out.2]
        rintro e w1 ⟨rfl, rfl⟩
        clear ha hb hNa hNb hla hlb
        obtain ⟨v, hv⟩ : ∃ v, p + r + cr = v := ⟨_, rfl⟩
        have hvi : (p : Int) + (r : Int) + (cr : Int) = (v : Int) := by omega
        have hvb : v ≤ 19999 := by omega
        have HV := Lib.hid hv
        clear hv
        go_wp2_with (at_builtin; refine wpList_app elemInts rfl _ _ rfl rfl (HO.out.2.1.alloc _) rfl (Rd.lit (nv .i64 [v % 10000]) rfl) (nv_one _) (by simp only [maxLen]; omega) (by omega) (by have := HO.out.2.2.size; simp; omega) ?_; intro R' d' w1 hown hg hat; have HA := Lib.hid (And.intro hown hg); clear hown hg hat)
        go_roundw
        case rel =>
          obtain ⟨hown, hg⟩ := HA.out
          rw [← nv_append] at hown
          have hN := HN.out
          rw [HV.out] at hN
          refine ⟨k + 1, v / 10000, R', d', o ++ [v % 10000], rfl, by go_num, by go_num, by omega, by omega, hN, hown, ?_⟩
          exact (HO.out.2.2.alloc _).grown hg (fun k hk hlt => by have := own_blk_le HO.out.2.1 hk; omega)
        case measure => simp [intOf]; omega
      · have g1 : decide ((k : Int) < (n : Int)) = false := by simp; omega
        have g1' : decide (k < n) = false := by simp; omega
        have g2 : decide ((k : Int) < (n' : Int)) = true := by simp; omega
        have g2' : decide (k < n') = true := by simp; omega
        go_wp2_with fail
        obtain ⟨ha, hb, hNa, hNb, hla, hlb⟩ := H0.out
        refine (at_any A n c la k wr (ha.new HO.out.2.2) (by omega)).mono ?_
        rw [HPR.out.1]
        rintro e w1 ⟨rfl, rfl⟩
        clear ha hb hNa hNb hla hlb
        go_wp2_with fail
        obtain ⟨ha, hb, hNa, hNb, hla, hlb⟩ := H0.out
        refine (at_any A' n' c' lb k wr (hb.new HO.out.2.2) (by omega)).mono ?_
        rw [HPR.out.2]
        rintro e w1 ⟨rfl, rfl⟩
        clear ha hb hNa hNb hla hlb
        obtain ⟨v, hv⟩ : ∃ v, p + r + cr = v := ⟨_, rfl⟩
        have hvi : (p : Int) + (r : Int) + (cr : Int) = (v : Int) := by omega
        have hvb : v ≤ 19999 := by omega
        have HV := Lib.hid hv
        clear hv
        go_wp2_with (at_builtin; refine wpList_app elemInts rfl _ _ rfl rfl (HO.out.2.1.alloc _) rfl (Rd.lit (nv .i64 [v % 10000]) rfl) (nv_one _) (by simp only [maxLen]; omega) (by omega) (by have := HO.out.2.2.size; simp; omega) ?_; intro R' d' w1 hown hg hat; have HA := Lib.hid (And.intro hown hg); clear hown hg hat)
        go_roundw
        case rel =>
          obtain ⟨hown, hg⟩ := HA.out
          rw [← nv_append] at hown
          have hN := HN.out
          rw [HV.out] at hN
          refine ⟨k + 1, v / 10000, R', d', o ++ [v % 10000], rfl, by go_num, by go_num, by omega, by omega, hN, hown, ?_⟩
          exact (HO.out.2.2.alloc _).grown hg (fun k hk hlt => by have := own_blk_le HO.out.2.1 hk; omega)
        case measure => simp [intOf]; omega
      · have g3 : decide ((0 : Int) < (cr : Int)) = true := by simp; omega
        have g3' : 0 < cr := by omega
        clear h3
        have g1 : decide ((k : Int) < (n : Int)) = false := by simp; omega
        have g1' : decide (k < n) = false := by simp; omega
        have g2 : decide ((k : Int) < (n' : Int)) = false := by simp; omega
        have g2' : decide (k < n') = false := by simp; omega
        go_wp2_with fail
        obtain ⟨ha, hb, hNa, hNb, hla, hlb⟩ := H0.out
        refine (at_any A n c la k wr (ha.new HO.out.2.2) (by omega)).mono ?_
        rw [HPR.out.1]
        rintro e w1 ⟨rfl, rfl⟩
        clear ha hb hNa hNb hla hlb
        go_wp2_with fail
        obtain ⟨ha, hb, hNa, hNb, hla, hlb⟩ := H0.out
        refine (at_any A' n' c' lb k wr (hb.new HO.out.2.2) (by omega)).mono ?_
        rw [HPR.out.2]
        rintro e w1 ⟨rfl, rfl⟩
        clear ha hb hNa hNb hla hlb
        obtain ⟨v, hv⟩ : ∃ v, p + r + cr = v := ⟨_, rfl⟩
        have hvi : (p : Int) + (r : Int) + (cr : Int) = (v : Int) := by omega
        have hvb : v ≤ 19999 := by omega
        have HV := Lib.hid hv
        clear hv
        go_wp2_with (at_builtin; refine wpList_app elemInts rfl _ _ rfl rfl (HO.out.2.1.alloc _) rfl (Rd.lit (nv .i64 [v % 10000]) rfl) (nv_one _) (by simp only [maxLen]; omega) (by omega) (by have := HO.out.2.2.size; simp; omega) ?_; intro R' d' w1 hown hg hat; have HA := Lib.hid (And.intro hown hg); clear hown hg hat)
        go_roundw
        case rel =>
          obtain ⟨hown, hg⟩ := HA.out
          rw [← nv_append] at hown
          have hN := HN.out
          rw [HV.out] at hN
          refine ⟨k + 1, v / 10000, R', d', o ++ [v % 10000], rfl, by go_num, by go_num, by omega, by omega, hN, hown, ?_⟩
          exact (HO.out.2.2.alloc _).grown hg (fun k hk hlt => by have := own_blk_le HO.out.2.1 hk; omega)
        case measure => simp [intOf]; omega
    · obtain rfl : cr = 0 := by omega
      have g1 : decide ((k : Int) < (n : Int)) = false := by simp; omega
      have g1' : decide (k < n) = false := by simp; omega
      have g2 : decide ((k : Int) < (n' : Int)) = false := by simp; omega
      have g2' : decide (k < n') = false := by simp; omega
      have h1 : n ≤ k := by omega
      have h2 : n' ≤ k := by omega
      clear hgo
      go_wp2
      go_ret
      obtain ⟨hA, ho, hn⟩ := HO.out
      obtain ⟨ha, hb, hNa, hNb, hla, hlb⟩ := H0.out
      refine ⟨R, k, d, rfl, ⟨o, ho, hA.digs, ?_⟩, hn⟩
      rw [hA.done (by omega) (by omega), hNa.val, hNb.val]
end Go.Proofs.YtbocpkjajocpiaaGreatDoor

namespace Go.Proofs.YtbocpkjajocpiaaGreatDoor
set_option linter.unusedVariables false
open Go.RowKit Go.Mem Go.Dig

set_option maxRecDepth 100000 in
set_option maxHeartbeats 2000000 in
theorem minus_any (A : Option Addr) (n c : Nat) (A' : Option Addr) (n' c' : Nat) (x y : Nat) (w : World) (hx : DM w A n c x) (hy : DM w A' n' c' y) (hle : y ≤ x) (hn : n ≤ 1000000) :
    Calls Tryz.prog 120 #[.slice A n c, .slice A' n' c'] w fun e w' => ∃ R k d, e = .returned (.slice R k d) ∧ OM w' w.heap.size R k d (x - y) ∧ New w w' := by
  obtain ⟨la, ha, hc1, hc2, hNa⟩ := hx
  obtain ⟨lb, hb, hd1, hd2, hNb⟩ := hy
  have hla : la.length = n := by have := ha.len; rwa [nv_length] at this
  have hlb : lb.length = n' := by have := hb.len; rwa [nv_length] at this
  have hn' : n' ≤ n := by
    rcases Nat.lt_or_ge n n' with h | h
    · have := hNa.len_lt (by omega) hNb (by omega); omega
    · exact h
  have H0 := Lib.hid (And.intro ha (And.intro hb (And.intro hNa (And.intro hNb (And.intro hla (And.intro hlb hle))))))
  clear ha hb hNa hNb hla hlb hle
  go_enter Tryz.func120, Tryz.ntmps120
  go_wp2
  go_loopw [5, 6, 7] (fun v u i wr => ∃ k br : Nat, ∃ R d o, v = .slice R k d ∧ u = .int .i64 br ∧ i = .int .i64 k ∧ br ≤ 1 ∧ k ≤ n ∧ Hid (SubI 10000 la lb k o br ∧ wr.ownsRow w.heap.size 3 1 (.slice R k d) k (nv .i64 o) ∧ New w wr)) (fun _ _ i _ => n - (intOf i).toNat)
  case atStart => exact ⟨0, 0, none, 0, [], rfl, rfl, rfl, by omega, by omega, SubI.start _ _ _, World.ownsRow_nil _ _ _ _, Chg.refl _ _⟩
  case round =>
    obtain ⟨k, br, R, d, o, rfl, rfl, rfl, hbr, hk, HO⟩ := hrel
    by_cases hlt : k < n
    · have hda : dg la k < 10000 := dg_lt H0.out.2.2.1.digs (by omega) k
      have hdb : dg lb k < 10000 := dg_lt H0.out.2.2.2.1.digs (by omega) k
      have hst := fun v r' => HO.out.1.step (v := v) (r' := r') (by omega) H0.out.2.2.1.digs H0.out.2.2.2.1.digs
      obtain ⟨p, hp⟩ : ∃ p, dg la k = p := ⟨_, rfl⟩
      obtain ⟨r, hr⟩ : ∃ r, dg lb k = r := ⟨_, rfl⟩
      rw [hp] at hda hst
      rw [hr] at hdb hst
      have HPR := Lib.hid (And.intro hp (And.intro hr hst))
      clear hp hr hst
      have hlti : (k : Int) < (n : Int) := by omega
      go_wp2_with fail
      obtain ⟨ha, hb, hNa, hNb, hla, hlb, hle⟩ := H0.out
      refine (at_any A n c la k wr (ha.new HO.out.2.2) (by omega)).mono ?_
      rw [HPR.out.1]
      rintro e w1 ⟨rfl, rfl⟩
      clear ha hb hNa hNb hla hlb hle
      go_wp2_with fail
      obtain ⟨ha, hb, hNa, hNb, hla, hlb, hle⟩ := H0.out
      refine (at_any A' n' c' lb k wr (hb.new HO.out.2.2) (by omega)).mono ?_
      rw [HPR.out.2.1]
      rintro e w1 ⟨rfl, rfl⟩
      clear ha hb hNa hNb hla hlb hle
      by_cases hng : p < r + br
      · obtain ⟨v, hv⟩ : ∃ v, p + 10000 - r - br = v := ⟨_, rfl⟩
        have hvi : (p : Int) - (r : Int) - (br : Int) + 10000 = (v : Int) := by omega
        have hneg : (p : Int) - (r : Int) - (br : Int) < 0 := by omega
        have HN := Lib.hid (HPR.out.2.2 v 1 (by omega) (by omega) (by omega))
        clear hv HPR
        go_wp2_with (at_builtin; refine wpList_app elemInts rfl _ _ rfl rfl (HO.out.2.1.alloc _) rfl (Rd.lit (nv .i64 [v]) rfl) (nv_one _) (by simp only [maxLen]; omega) (by omega) (by have := HO.out.2.2.size; simp; omega) ?_; intro R' d' w1 hown hg hat; have HA := Lib.hid (And.intro hown hg); clear hown hg hat)
        go_roundw
        case rel =>
          obtain ⟨hown, hg⟩ := HA.out
          rw [← nv_append] at hown
          refine ⟨k + 1, 1, R', d', o ++ [v], rfl, rfl, by go_num, by omega, by omega, HN.out, hown, ?_⟩
          exact (HO.out.2.2.alloc _).grown hg (fun k hk hlt => by have := own_blk_le HO.out.2.1 hk; omega)
        case measure => simp [intOf]; omega
      · obtain ⟨v, hv⟩ : ∃ v, p - r - br = v := ⟨_, rfl⟩
        have hvi : (p : Int) - (r : Int) - (br : Int) = (v : Int) := by omega
        have hneg : decide ((v : Int) < 0) = false := by simp
        have HN := Lib.hid (HPR.out.2.2 v 0 (by omega) (by omega) (by omega))
        clear hv HPR
        go_wp2_with (at_builtin; refine wpList_app elemInts rfl _ _ rfl rfl (HO.out.2.1.alloc _) rfl (Rd.lit (nv .i64 [v]) rfl) (nv_one _) (by simp only [maxLen]; omega) (by omega) (by have := HO.out.2.2.size; simp; omega) ?_; intro R' d' w1 hown hg hat; have HA := Lib.hid (And.intro hown hg); clear hown hg hat)
        go_roundw
        case rel =>
          obtain ⟨hown, hg⟩ := HA.out
          rw [← nv_append] at hown
          refine ⟨k + 1, 0, R', d', o ++ [v], rfl, rfl, by go_num, by omega, by omega, HN.out, hown, ?_⟩
          exact (HO.out.2.2.alloc _).grown hg (fun k hk hlt => by have := own_blk_le HO.out.2.1 hk; omega)
        case measure => simp [intOf]; omega
    · obtain rfl : n = k := by omega
      go_wp2
      go_ret
      obtain ⟨hA, ho, hn⟩ := HO.out
      obtain ⟨ha, hb, hNa, hNb, hla, hlb, hle⟩ := H0.out
      refine ⟨R, n, d, rfl, ⟨o, ho, hA.digs, ?_⟩, hn⟩
      subst hla
      rw [hA.done (by omega) (by omega) (by rw [hNa.val, hNb.val]; exact hle), hNa.val, hNb.val]
end Go.Proofs.YtbocpkjajocpiaaGreatDoor

namespace Go.Proofs.YtbocpkjajocpiaaGreatDoor
set_option linter.unusedVariables false
open Go.RowKit Go.Mem Go.Dig

set_option maxHeartbeats 400000 in
theorem rneg_any (v : Value) (x : Int) (w : World) (hx : RN w v x) :
    Calls Tryz.prog 14 #[v] w fun e w' => ∃ v, e = .returned v ∧ RN w' v (-x) ∧ New w w' := by
  obtain ⟨s, A, n, c, rfl, hs, l, hr, hnc, hcm, hN⟩ := hx
  have H := Lib.hid (And.intro hs (And.intro hr hN))
  clear hs hr hN
  go_enter Tryz.func14, Tryz.ntmps14
  go_wp2_with fail
  obtain ⟨hs, hr, hN⟩ := H.out
  have hb0 := Blk.new (w.alloc (.cells #[.bool s, .slice A n c] 26)) 26 #[.bool false, .slice none 0 0]
  rw [World.size_alloc] at hb0
  have hn0 : New w ((w.alloc (.cells #[.bool s, .slice A n c] 26)).alloc (.cells #[.bool false, .slice none 0 0] 26)) := ((Chg.refl _ w).alloc _).alloc _
  refine (normal_rn (!s) A n c l _ (hr.new hn0) hN.digs hnc hcm).mono ?_
  rintro e w1 ⟨v, rfl, hwi, hn1⟩
  have hval : sg (!s) (val 10000 l) = -x := by
    rw [hN.val, hs]
    unfold sg
    by_cases h : x < 0 <;> simp [h] <;> omega
  rw [hval] at hwi
  have hb1 := hb0.chg hn1 (fun h => h)
  obtain ⟨s', A', n', c', rfl, hs', hwm⟩ := hwi
  have hc0 := hb1.cell 0 rfl
  have hc1 := hb1.cell 1 rfl
  have hf0 := hb1.frozen 0
  have hf1 := hb1.frozen 1
  have H1 := Lib.hid (And.intro hb1 (And.intro (hn0.new hn1) (And.intro hs' hwm)))
  clear hb0 hn0 hn1 hb1 hs' hwm H hs hr hN hval
  go_wp2
  obtain ⟨hb1, hn1, hs, hwm⟩ := H1.out
  refine bodyPost_ret (res_c rfl _ rfl (aggN.load (hb1.set2 _ _))) rfl ⟨_, rfl, ⟨s', A', n', c', rfl, hs, ?_⟩, ?_⟩
  · exact hwm.store hb1 (noInt_two' _ _ _ _) (Chg.at2 _ _ _ _)
  · exact Chg.owned hn1 (Chg.at2 _ _ _ _) (fun k e => by omega)

theorem normal_om (s : Bool) (R : Option Addr) (k d b m : Nat) (w : World) (h : Hid (OM w b R k d m)) :
    Calls Tryz.prog 72 #[.bool s, .slice R k d] w fun e w' => ∃ s' A' n' c', e = .returned (.agg #[.bool s', .slice A' n' c']) ∧ Hid (s' = decide (sg s m < 0) ∧ DM w' A' n' c' (sg s m).natAbs) ∧ Hid (New w w') := by
  obtain ⟨l, ho, hd, hv⟩ := h.out
  have hcap := own_cap ho
  refine (normal_rn s R k d l w (Rd.of_own ho) hd hcap.1 hcap.2).mono ?_
  rintro e w' ⟨v, rfl, ⟨s', A', n', c', rfl, h1, h2⟩, hn⟩
  rw [hv] at h1 h2
  exact ⟨s', A', n', c', rfl, ⟨h1, h2⟩, hn⟩

set_option maxRecDepth 100000 in
set_option maxHeartbeats 2000000 in
theorem radd_same (s : Bool) (A : Option Addr) (n c : Nat) (A' : Option Addr) (n' c' : Nat) (x y : Nat) (w : World) (hx : DM w A n c x) (hy : DM w A' n' c' y) (hn : n ≤ 1000000) (hn' : n' ≤ 1000000) :
    Calls Tryz.prog 71 #[.agg #[.bool s, .slice A n c], .agg #[.bool s, .slice A' n' c']] w fun e w' => ∃ v, e = .returned v ∧ RN w' v (sg s (x + y)) ∧ New w w' := by
  have H0 := Lib.hid (And.intro hx hy)
  clear hx hy
  go_enter Tryz.func71, Tryz.ntmps71
  go_wp2_with fail
  refine Code.new3 ?_
  intro W hb1 hb2 hb3 hnW hzW
  have hc10 := hb1.cell 0 (u := .bool s) rfl
  have hc11 := hb1.cell 1 (u := .slice A n c) rfl
  have hc21 := hb2.cell 1 (u := .slice A' n' c') rfl
  have hc30 := hb3.cell 0 (u := .bool false) rfl
  have hc31 := hb3.cell 1 (u := .slice none 0 0) rfl
  have hf30 := hb3.frozen 0
  have hf31 := hb3.frozen 1
  have hplus : ∀ W', New W W' → Calls Tryz.prog 118 #[.slice A n c, .slice A' n' c'] W' fun e w' => ∃ R k d, e = .returned (.slice R k d) ∧ Hid (OM w' W'.heap.size R k d (x + y)) ∧ Hid (New W w') := fun W' h =>
    (plus_any A n c A' n' c' x y W' (H0.out.1.new (hnW.new h)) (H0.out.2.new (hnW.new h)) hn hn').mono fun e w' ⟨R, k, d, h1, h2, h3⟩ => ⟨R, k, d, h1, h2, h.new h3⟩
  have HP := Lib.hid hplus
  have HB := Lib.hid (And.intro hb1 (And.intro hb2 (And.intro hb3 hnW)))
  clear hplus hb1 hb2 hb3 hnW
  go_region_held3 (fun w' => w'.cell? ⟨w.heap.size, 0, none⟩ = some (.bool s) ∧ w'.cell? ⟨w.heap.size, 1, none⟩ = some (.slice A n c) ∧ w'.cell? ⟨w.heap.size + 1, 1, none⟩ = some (.slice A' n' c')) (first | exact ⟨by assumption, by assumption, by assumption⟩ | exact ⟨far2 he10 (by dsimp only; omega) _ _, far2 he11 (by dsimp only; omega) _ _, far2 he21 (by dsimp only; omega) _ _⟩)
    (first
      | (go_at_call 118; refine (HP.out _ ?_).mono ?_; exact (Chg.refl _ _).drew; rintro e w5 ⟨R, k, d, rfl, HO5, HN5⟩; have hd10 := HN5.out.cell hc10 (fun h => h); have hd11 := HN5.out.cell hc11 (fun h => h); have hd21 := HN5.out.cell hc21 (fun h => h); have hd30 := HN5.out.cell hc30 (fun h => h); have hd31 := HN5.out.cell hc31 (fun h => h); have hg30 := (HB.out.2.2.1.chg HN5.out (fun h => h)).frozen 0; have hg31 := (HB.out.2.2.1.chg HN5.out (fun h => h)).frozen 1)
      | (go_at_call 72; refine (normal_om s R k d _ _ _ HO5).mono ?_; rintro e w6 ⟨s6, A6, n6, c6, rfl, H6, HN6⟩; have he10 := HN6.out.cell hd10 (fun h => h); have he11 := HN6.out.cell hd11 (fun h => h); have he21 := HN6.out.cell hd21 (fun h => h); have he30 := HN6.out.cell hd30 (fun h => h); have he31 := HN6.out.cell hd31 (fun h => h); have hh30 := ((HB.out.2.2.1.chg HN5.out (fun h => h)).chg HN6.out (fun h => h)).frozen 0; have hh31 := ((HB.out.2.2.1.chg HN5.out (fun h => h)).chg HN6.out (fun h => h)).frozen 1))
  all_goals
    clear hc10 hc11 hc21 hc30 hc31 hf30 hf31 hd10 hd11 hd21 hd30 hd31 hg30 hg31
    go_wp2
    obtain ⟨hs6, hm6⟩ := H6.out
    have hb6 := (HB.out.2.2.1.chg HN5.out (fun h => h)).chg HN6.out (fun h => h)
    refine bodyPost_ret (res_c rfl _ rfl (aggN.load (hb6.set2 _ _))) rfl ⟨_, rfl, ⟨s6, A6, n6, c6, rfl, hs6, hm6.store hb6 (noInt_two' _ _ _ _) (Chg.at2 _ _ _ _)⟩, ?_⟩
    exact Chg.owned (HB.out.2.2.2.new (HN5.out.new HN6.out)) (Chg.at2 _ _ _ _) (fun k e => by omega)

set_option maxRecDepth 100000 in
set_option maxHeartbeats 2000000 in
theorem radd_lt (s s' : Bool) (hss : (s == s') = false) (A : Option Addr) (n c : Nat) (A' : Option Addr) (n' c' : Nat) (x y : Nat) (w : World) (hx : DM w A n c x) (hy : DM w A' n' c' y) (hn : n ≤ 1000000) (hn' : n' ≤ 1000000) (hlt : x < y) :
    Calls Tryz.prog 71 #[.agg #[.bool s, .slice A n c], .agg #[.bool s', .slice A' n' c']] w fun e w' => ∃ v, e = .returned v ∧ RN w' v (sg s' (y - x : Nat)) ∧ New w w' := by
  have H0 := Lib.hid (And.intro hx hy)
  clear hx hy
  go_enter Tryz.func71, Tryz.ntmps71
  go_wp2_with fail
  refine Calls.new3 ?_
  intro W0 hb1 hb2 hb3 hnW hzW
  refine (compared_any A n c A' n' c' x y W0 (H0.out.1.new hnW) (H0.out.2.new hnW)).mono ?_
  rintro e W ⟨rfl, q, hq⟩
  rw [cmpI_lt (show (x : Int) < (y : Int) by omega)]
  have hneg : decide ((-1 : Int) < 0) = true := by decide
  have hnq : New W0 W := by rw [hq]; exact (Chg.refl _ _).drewN q
  replace hb1 := hb1.chg hnq (fun h => h)
  replace hb2 := hb2.chg hnq (fun h => h)
  replace hb3 := hb3.chg hnq (fun h => h)
  replace hnW := hnW.new hnq
  have hc20 := hb2.cell 0 (u := .bool s') rfl
  have hc21 := hb2.cell 1 (u := .slice A' n' c') rfl
  have hc11 := hb1.cell 1 (u := .slice A n c) rfl
  have hc30 := hb3.cell 0 (u := .bool false) rfl
  have hc31 := hb3.cell 1 (u := .slice none 0 0) rfl
  have hf30 := hb3.frozen 0
  have hf31 := hb3.frozen 1
  have hmin : ∀ W', New W W' → Calls Tryz.prog 120 #[.slice A' n' c', .slice A n c] W' fun e w' => ∃ R k d, e = .returned (.slice R k d) ∧ Hid (OM w' W'.heap.size R k d (y - x)) ∧ Hid (New W w') := fun W' h =>
    (minus_any A' n' c' A n c y x W' (H0.out.2.new (hnW.new h)) (H0.out.1.new (hnW.new h)) (by omega) hn').mono fun e w' ⟨R, k, d, h1, h2, h3⟩ => ⟨R, k, d, h1, h2, h.new h3⟩
  have HP := Lib.hid hmin
  have HB := Lib.hid (And.intro hb1 (And.intro hb2 (And.intro hb3 hnW)))
  clear hmin hb1 hb2 hb3 hnW hq hnq hzW
  go_wp2_with fail
  go_region_held3 (fun w' => w'.cell? ⟨w.heap.size + 1, 0, none⟩ = some (.bool s') ∧ w'.cell? ⟨w.heap.size + 1, 1, none⟩ = some (.slice A' n' c') ∧ w'.cell? ⟨w.heap.size, 1, none⟩ = some (.slice A n c)) (first | exact ⟨by assumption, by assumption, by assumption⟩ | exact ⟨far2 he20 (by dsimp only; omega) _ _, far2 he21 (by dsimp only; omega) _ _, far2 he11 (by dsimp only; omega) _ _⟩)
    (first
      | (go_at_call 120; refine (HP.out _ ?_).mono ?_; exact (Chg.refl _ _).drew; rintro e w5 ⟨R, k, d, rfl, HO5, HN5⟩; have hd20 := HN5.out.cell hc20 (fun h => h); have hd21 := HN5.out.cell hc21 (fun h => h); have hd11 := HN5.out.cell hc11 (fun h => h); have hd30 := HN5.out.cell hc30 (fun h => h); have hd31 := HN5.out.cell hc31 (fun h => h); have hg30 := (HB.out.2.2.1.chg HN5.out (fun h => h)).frozen 0; have hg31 := (HB.out.2.2.1.chg HN5.out (fun h => h)).frozen 1)
      | (go_at_call 72; refine (normal_om s' R k d _ _ _ HO5).mono ?_; rintro e w6 ⟨s6, A6, n6, c6, rfl, H6, HN6⟩; have he20 := HN6.out.cell hd20 (fun h => h); have he21 := HN6.out.cell hd21 (fun h => h); have he11 := HN6.out.cell hd11 (fun h => h); have he30 := HN6.out.cell hd30 (fun h => h); have he31 := HN6.out.cell hd31 (fun h => h); have hh30 := ((HB.out.2.2.1.chg HN5.out (fun h => h)).chg HN6.out (fun h => h)).frozen 0; have hh31 := ((HB.out.2.2.1.chg HN5.out (fun h => h)).chg HN6.out (fun h => h)).frozen 1))
  all_goals
    clear hc20 hc21 hc11 hc30 hc31 hf30 hf31 hd20 hd21 hd11 hd30 hd31 hg30 hg31
    go_wp2
    obtain ⟨hs6, hm6⟩ := H6.out
    have hb6 := (HB.out.2.2.1.chg HN5.out (fun h => h)).chg HN6.out (fun h => h)
    refine bodyPost_ret (res_c rfl _ rfl (aggN.load (hb6.set2 _ _))) rfl ⟨_, rfl, ⟨s6, A6, n6, c6, rfl, hs6, hm6.store hb6 (noInt_two' _ _ _ _) (Chg.at2 _ _ _ _)⟩, ?_⟩
    exact Chg.owned (HB.out.2.2.2.new (HN5.out.new HN6.out)) (Chg.at2 _ _ _ _) (fun k e => by omega)

set_option maxRecDepth 100000 in
set_option maxHeartbeats 2000000 in
theorem radd_ge (s s' : Bool) (hss : (s == s') = false) (A : Option Addr) (n c : Nat) (A' : Option Addr) (n' c' : Nat) (x y : Nat) (w : World) (hx : DM w A n c x) (hy : DM w A' n' c' y) (hn : n ≤ 1000000) (hn' : n' ≤ 1000000) (hlt : y ≤ x) :
    Calls Tryz.prog 71 #[.agg #[.bool s, .slice A n c], .agg #[.bool s', .slice A' n' c']] w fun e w' => ∃ v, e = .returned v ∧ RN w' v (sg s (x - y : Nat)) ∧ New w w' := by
  have H0 := Lib.hid (And.intro hx hy)
  clear hx hy
  go_enter Tryz.func71, Tryz.ntmps71
  go_wp2_with fail
  refine Calls.new3 ?_
  intro W0 hb1 hb2 hb3 hnW hzW
  refine (compared_any A n c A' n' c' x y W0 (H0.out.1.new hnW) (H0.out.2.new hnW)).mono ?_
  rintro e W ⟨rfl, q, hq⟩
  have hcv : decide (cmpI (x : Int) (y : Int) < 0) = false := by
    unfold cmpI
    rw [if_neg (by omega)]
    split <;> decide
  generalize cmpI (x : Int) (y : Int) = cv at *
  have hnq : New W0 W := by rw [hq]; exact (Chg.refl _ _).drewN q
  replace hb1 := hb1.chg hnq (fun h => h)
  replace hb2 := hb2.chg hnq (fun h => h)
  replace hb3 := hb3.chg hnq (fun h => h)
  replace hnW := hnW.new hnq
  have hc10 := hb1.cell 0 (u := .bool s) rfl
  have hc11 := hb1.cell 1 (u := .slice A n c) rfl
  have hc21 := hb2.cell 1 (u := .slice A' n' c') rfl
  have hc30 := hb3.cell 0 (u := .bool false) rfl
  have hc31 := hb3.cell 1 (u := .slice none 0 0) rfl
  have hf30 := hb3.frozen 0
  have hf31 := hb3.frozen 1
  have hmin : ∀ W', New W W' → Calls Tryz.prog 120 #[.slice A n c, .slice A' n' c'] W' fun e w' => ∃ R k d, e = .returned (.slice R k d) ∧ Hid (OM w' W'.heap.size R k d (x - y)) ∧ Hid (New W w') := fun W' h =>
    (minus_any A n c A' n' c' x y W' (H0.out.1.new (hnW.new h)) (H0.out.2.new (hnW.new h)) (by omega) hn).mono fun e w' ⟨R, k, d, h1, h2, h3⟩ => ⟨R, k, d, h1, h2, h.new h3⟩
  have HP := Lib.hid hmin
  have HB := Lib.hid (And.intro hb1 (And.intro hb2 (And.intro hb3 hnW)))
  clear hmin hb1 hb2 hb3 hnW hq hnq hzW
  go_wp2_with fail
  go_region_held3 (fun w' => w'.cell? ⟨w.heap.size, 0, none⟩ = some (.bool s) ∧ w'.cell? ⟨w.heap.size, 1, none⟩ = some (.slice A n c) ∧ w'.cell? ⟨w.heap.size + 1, 1, none⟩ = some (.slice A' n' c')) (first | exact ⟨by assumption, by assumption, by assumption⟩ | exact ⟨far2 he10 (by dsimp only; omega) _ _, far2 he11 (by dsimp only; omega) _ _, far2 he21 (by dsimp only; omega) _ _⟩)
    (first
      | (go_at_call 120; refine (HP.out _ ?_).mono ?_; exact (Chg.refl _ _).drew; rintro e w5 ⟨R, k, d, rfl, HO5, HN5⟩; have hd10 := HN5.out.cell hc10 (fun h => h); have hd11 := HN5.out.cell hc11 (fun h => h); have hd21 := HN5.out.cell hc21 (fun h => h); have hd30 := HN5.out.cell hc30 (fun h => h); have hd31 := HN5.out.cell hc31 (fun h => h); have hg30 := (HB.out.2.2.1.chg HN5.out (fun h => h)).frozen 0; have hg31 := (HB.out.2.2.1.chg HN5.out (fun h => h)).frozen 1)
      | (go_at_call 72; refine (normal_om s R k d _ _ _ HO5).mono ?_; rintro e w6 ⟨s6, A6, n6, c6, rfl, H6, HN6⟩; have he10 := HN6.out.cell hd10 (fun h => h); have he11 := HN6.out.cell hd11 (fun h => h); have he21 := HN6.out.cell hd21 (fun h => h); have he30 := HN6.out.cell hd30 (fun h => h); have he31 := HN6.out.cell hd31 (fun h => h); have hh30 := ((HB.out.2.2.1.chg HN5.out (fun h => h)).chg HN6.out (fun h => h)).frozen 0; have hh31 := ((HB.out.2.2.1.chg HN5.out (fun h => h)).chg HN6.out (fun h => h)).frozen 1))
  all_goals
    clear hc10 hc11 hc21 hc30 hc31 hf30 hf31 hd10 hd11 hd21 hd30 hd31 hg30 hg31
    go_wp2
    obtain ⟨hs6, hm6⟩ := H6.out
    have hb6 := (HB.out.2.2.1.chg HN5.out (fun h => h)).chg HN6.out (fun h => h)
    refine bodyPost_ret (res_c rfl _ rfl (aggN.load (hb6.set2 _ _))) rfl ⟨_, rfl, ⟨s6, A6, n6, c6, rfl, hs6, hm6.store hb6 (noInt_two' _ _ _ _) (Chg.at2 _ _ _ _)⟩, ?_⟩
    exact Chg.owned (HB.out.2.2.2.new (HN5.out.new HN6.out)) (Chg.at2 _ _ _ _) (fun k e => by omega)

theorem bz_len {w : World} {A : Option Addr} {n c : Nat} {z : Int} (h : DM w A n c z.natAbs) {k : Nat} (hk : z.natAbs < 2 ^ k) : n ≤ k :=
  h.len (Nat.lt_of_lt_of_le hk (Nat.pow_le_pow_left (by omega) k))
theorem radd_any (v v' : Value) (x y : Int) (w : World) (hx : RN w v x) (hy : RN w v' y) (bx : x.natAbs < 2 ^ 1000000) (bY : y.natAbs < 2 ^ 1000000) :
    Calls Tryz.prog 71 #[v, v'] w fun e w' => ∃ v, e = .returned v ∧ RN w' v (x + y) ∧ New w w' := by
  obtain ⟨s, A, n, c, rfl, hs, hm⟩ := hx
  obtain ⟨s', A', n', c', rfl, hs', hm'⟩ := hy
  have hn := bz_len hm bx
  have hn' := bz_len hm' bY
  clear bx bY
  by_cases hss : s = s'
  · subst hss
    refine (radd_same s A n c A' n' c' _ _ w hm hm' hn hn').mono ?_
    rintro e w1 ⟨v1, rfl, h1, h2⟩
    have e1 : sg s (x.natAbs + y.natAbs) = x + y := by
      unfold sg
      cases s
      · have : ¬ x < 0 := by simpa using hs.symm
        have : ¬ y < 0 := by simpa using hs'.symm
        simp; omega
      · have : x < 0 := by simpa using hs.symm
        have : y < 0 := by simpa using hs'.symm
        simp; omega
    rw [e1] at h1
    exact ⟨v1, rfl, h1, h2⟩
  · have hb : (s == s') = false := by simp [hss]
    have hsg : (s = true ∧ s' = false ∧ x < 0 ∧ ¬ y < 0) ∨ (s = false ∧ s' = true ∧ ¬ x < 0 ∧ y < 0) := by
      cases s <;> cases s'
      · exact absurd rfl hss
      · exact .inr ⟨rfl, rfl, by simpa using hs.symm, by simpa using hs'.symm⟩
      · exact .inl ⟨rfl, rfl, by simpa using hs.symm, by simpa using hs'.symm⟩
      · exact absurd rfl hss
    rcases Nat.lt_or_ge x.natAbs y.natAbs with hlt | hlt
    · refine (radd_lt s s' hb A n c A' n' c' _ _ w hm hm' hn hn' hlt).mono ?_
      rintro e w1 ⟨v1, rfl, h1, h2⟩
      have e1 : sg s' (y.natAbs - x.natAbs : Nat) = x + y := by
        unfold sg
        rcases hsg with ⟨_, rfl, h3, h4⟩ | ⟨_, rfl, h3, h4⟩ <;> simp <;> omega
      rw [e1] at h1
      exact ⟨v1, rfl, h1, h2⟩
    · refine (radd_ge s s' hb A n c A' n' c' _ _ w hm hm' hn hn' hlt).mono ?_
      rintro e w1 ⟨v1, rfl, h1, h2⟩
      have e1 : sg s (x.natAbs - y.natAbs : Nat) = x + y := by
        unfold sg
        rcases hsg with ⟨rfl, _, h3, h4⟩ | ⟨rfl, _, h3, h4⟩ <;> simp <;> omega
      rw [e1] at h1
      exact ⟨v1, rfl, h1, h2⟩

end Go.Proofs.YtbocpkjajocpiaaGreatDoor

namespace Go.Txt
set_option linter.unusedVariables false
open Go.Lib (decDigits nDigits)

theorem snocRec {α : Type} {motive : List α → Prop} (nil : motive []) (snoc : ∀ l c, motive l → motive (l ++ [c])) (l : List α) : motive l := by
  rw [← List.reverse_reverse l]
  induction l.reverse with
  | nil => exact nil
  | cons a t ih => rw [List.reverse_cons]; exact snoc _ _ ih

theorem dec_small {u : Nat} (h : u < 10) : decDigits u = [UInt8.ofNat (48 + u)] := by rw [decDigits, dif_pos h]
theorem dec_big {u : Nat} (h : ¬ u < 10) : decDigits u = decDigits (u / 10) ++ [UInt8.ofNat (48 + u % 10)] := by rw [decDigits, dif_neg h]
/-- The last k digits of r. -/
def pad : Nat → Nat → List UInt8
  | 0, _ => []
  | k + 1, r => pad k (r / 10) ++ [UInt8.ofNat (48 + r % 10)]
theorem pad_len (k r : Nat) : (pad k r).length = k := by
  induction k generalizing r with
  | zero => rfl
  | succ k ih => simp [pad, ih]
theorem dec_pad (k : Nat) : ∀ (q r : Nat), r < 10 ^ k → 0 < q → decDigits (q * 10 ^ k + r) = decDigits q ++ pad k r := by
  induction k with
  | zero => intro q r hr hq; simp [pad] at hr ⊢; rw [hr]; rfl
  | succ k ih =>
    intro q r hr hq
    have hp : 1 ≤ 10 ^ k := Nat.one_le_pow _ _ (by decide)
    have e : q * 10 ^ (k + 1) = q * 10 ^ k * 10 := by rw [Nat.pow_succ, Nat.mul_assoc]
    have h1 : 10 ^ k ≤ q * 10 ^ k := Nat.le_mul_of_pos_left _ hq
    have h2 : r < 10 ^ k * 10 := by rwa [Nat.pow_succ] at hr
    rw [dec_big (by omega), pad, show (q * 10 ^ (k + 1) + r) / 10 = q * 10 ^ k + r / 10 by omega, ih q (r / 10) (by omega) hq, List.append_assoc, show (q * 10 ^ (k + 1) + r) % 10 = r % 10 by omega]
theorem rep_snoc (k : Nat) (a : UInt8) : List.replicate (k + 1) a = List.replicate k a ++ [a] := by
  rw [List.replicate_succ']
theorem pad_zero (k : Nat) : pad k 0 = List.replicate k 48 := by
  induction k with
  | zero => rfl
  | succ k ih => rw [pad, Nat.zero_div, ih, rep_snoc]; rfl
theorem pad_dec (k : Nat) : ∀ u, 1 ≤ k → u < 10 ^ k → pad k u = List.replicate (k - (decDigits u).length) 48 ++ decDigits u := by
  induction k with
  | zero => intro u h; omega
  | succ k ih =>
    intro u _ hu
    by_cases h : u < 10
    · rw [dec_small h, pad, Nat.div_eq_of_lt h, pad_zero, Nat.mod_eq_of_lt h]; simp
    · have hk : 1 ≤ k := by
        rcases Nat.eq_zero_or_pos k with h0 | h0
        · subst h0; simp at hu; omega
        · exact h0
      rw [dec_big h, pad, ih (u / 10) hk (by rw [Nat.pow_succ] at hu; omega), List.append_assoc]
      simp
theorem dec_len_le {u k : Nat} (hk : 1 ≤ k) (h : u < 10 ^ k) : (decDigits u).length ≤ k := by
  have h1 := congrArg List.length (pad_dec k u hk h)
  rw [pad_len] at h1
  simp at h1
  omega
theorem dec_len_pos (u : Nat) : 1 ≤ (decDigits u).length := by
  rw [Go.Lib.decDigits_length]; exact Go.Lib.nDigits_pos u

/-! ### digits -/
def isDig (c : UInt8) : Prop := 48 ≤ c.toNat ∧ c.toNat ≤ 57
instance (c : UInt8) : Decidable (isDig c) := inferInstanceAs (Decidable (_ ∧ _))
def AllDig (l : List UInt8) : Prop := ∀ c ∈ l, isDig c
theorem AllDig.nil : AllDig [] := fun _ h => by simp at h
theorem AllDig.append {a b : List UInt8} (ha : AllDig a) (hb : AllDig b) : AllDig (a ++ b) := fun c h => (List.mem_append.1 h).elim (ha c) (hb c)
theorem AllDig.left {a b : List UInt8} (h : AllDig (a ++ b)) : AllDig a := fun c hc => h c (List.mem_append.2 (.inl hc))
theorem AllDig.right {a b : List UInt8} (h : AllDig (a ++ b)) : AllDig b := fun c hc => h c (List.mem_append.2 (.inr hc))
theorem AllDig.take {a : List UInt8} (h : AllDig a) (k : Nat) : AllDig (a.take k) := fun c hc => h c (List.mem_of_mem_take hc)
theorem AllDig.drop {a : List UInt8} (h : AllDig a) (k : Nat) : AllDig (a.drop k) := fun c hc => h c (List.mem_of_mem_drop hc)
theorem dig_nat {d : Nat} (h : d < 10) : (UInt8.ofNat (48 + d)).toNat = 48 + d := by
  rw [UInt8.toNat_ofNat']; omega
theorem AllDig.one {d : Nat} (h : d < 10) : AllDig [UInt8.ofNat (48 + d)] := by
  intro c hc
  rw [List.mem_singleton] at hc
  subst hc
  unfold isDig
  rw [dig_nat h]; omega
theorem allDig_dec (u : Nat) : AllDig (decDigits u) := by
  induction u using Nat.strongRecOn with
  | _ u ih =>
    by_cases h : u < 10
    · rw [dec_small h]; exact AllDig.one h
    · rw [dec_big h]; exact (ih _ (by omega)).append (AllDig.one (by omega))
def decVal (l : List UInt8) : Nat := l.foldl (fun a c => a * 10 + (c.toNat - 48)) 0
theorem decVal_nil : decVal [] = 0 := rfl
theorem decVal_snoc (l : List UInt8) (c : UInt8) : decVal (l ++ [c]) = decVal l * 10 + (c.toNat - 48) := by simp [decVal]
theorem decVal_append (a b : List UInt8) : decVal (a ++ b) = decVal a * 10 ^ b.length + decVal b := by
  induction b using snocRec with
  | nil => simp [decVal_nil]
  | snoc b c ih =>
    rw [← List.append_assoc, decVal_snoc, ih, decVal_snoc, List.length_append, List.length_singleton, Nat.pow_succ, Nat.add_mul, Nat.mul_assoc, Nat.add_assoc]
theorem decVal_dec (u : Nat) : decVal (decDigits u) = u := by
  induction u using Nat.strongRecOn with
  | _ u ih =>
    by_cases h : u < 10
    · rw [dec_small h]
      simp [decVal, UInt8.toNat_ofNat']
      omega
    · rw [dec_big h, decVal_snoc, ih _ (by omega), dig_nat (by omega)]; omega
theorem decVal_lt {l : List UInt8} (h : AllDig l) : decVal l < 10 ^ l.length := by
  induction l using snocRec with
  | nil => simp [decVal_nil]
  | snoc l c ih =>
    have h1 := ih h.left
    have h2 := h.right c (by simp)
    rw [decVal_snoc, List.length_append, List.length_singleton, Nat.pow_succ]
    unfold isDig at h2
    omega
theorem byte_of_dig {c : UInt8} (h : isDig c) : UInt8.ofNat (48 + (c.toNat - 48)) = c := by
  unfold isDig at h
  rw [show 48 + (c.toNat - 48) = c.toNat by omega]
  exact UInt8.ofNat_toNat
/-- Digits without a zero ahead. -/
def Formed (l : List UInt8) : Prop := AllDig l ∧ (l = [48] ∨ ∃ c t, l = c :: t ∧ c ≠ 48)
theorem Formed.ne {l : List UInt8} (h : Formed l) : l ≠ [] := by
  rcases h.2 with rfl | ⟨c, t, rfl, _⟩ <;> simp
theorem dec_of_val {l : List UInt8} (h : Formed l) : decDigits (decVal l) = l := by
  obtain ⟨hd, h⟩ := h
  rcases h with rfl | ⟨c, t, rfl, hc⟩
  · rw [show decVal [48] = 0 by rfl, dec_small (by omega)]; rfl
  · induction t using snocRec with
    | nil =>
      have h1 := hd c (by simp)
      have : decVal [c] = c.toNat - 48 := by simp [decVal]
      unfold isDig at h1
      rw [this, dec_small (by omega), byte_of_dig h1]
    | snoc t x ih =>
      rw [← List.cons_append] at hd ⊢
      have h1 := hd.right x (by simp)
      have h2 := ih hd.left
      have hx := h1
      unfold isDig at h1
      have hpos : 0 < decVal (c :: t) := by
        rcases Nat.eq_zero_or_pos (decVal (c :: t)) with h0 | h0
        · exfalso
          rw [h0, dec_small (by omega)] at h2
          injection h2 with h3 h4
          exact hc h3.symm
        · exact h0
      rw [decVal_snoc, dec_big (by omega), show (decVal (c :: t) * 10 + (x.toNat - 48)) / 10 = decVal (c :: t) by omega, h2, show (decVal (c :: t) * 10 + (x.toNat - 48)) % 10 = x.toNat - 48 by omega, byte_of_dig hx]
theorem formed_dec (u : Nat) : Formed (decDigits u) := by
  refine ⟨allDig_dec u, ?_⟩
  induction u using Nat.strongRecOn with
  | _ u ih =>
    by_cases h : u < 10
    · rw [dec_small h]
      rcases Nat.eq_zero_or_pos u with h0 | h0
      · subst h0; left; rfl
      · right
        refine ⟨_, [], rfl, fun e => ?_⟩
        have := congrArg UInt8.toNat e
        rw [dig_nat h] at this
        simp at this
        omega
    · rw [dec_big h]
      right
      rcases ih (u / 10) (by omega) with e | ⟨c, t, e, hc⟩
      · exfalso
        have := decVal_dec (u / 10)
        rw [e] at this
        have h2 : decVal [48] = 0 := rfl
        omega
      · rw [e]; exact ⟨c, _, rfl, hc⟩
theorem dec_inj {a b : Nat} (h : decDigits a = decDigits b) : a = b := by rw [← decVal_dec a, h, decVal_dec]

/-! ### texts of integers -/
def text (z : Int) : List UInt8 := if z < 0 then 45 :: decDigits z.natAbs else decDigits z.natAbs
theorem not45 {l : List UInt8} (h : AllDig l) {t : List UInt8} : l ≠ 45 :: t := by
  intro e; subst e
  have := h 45 (by simp)
  unfold isDig at this
  simp at this
theorem text_inj {a b : Int} (h : text a = text b) : a = b := by
  unfold text at h
  split at h <;> split at h
  · injection h with _ h; have := dec_inj h; omega
  · exact absurd h.symm (not45 (allDig_dec _))
  · exact absurd h (not45 (allDig_dec _))
  · have := dec_inj h; omega
theorem text_len {z : Int} {k : Nat} (hk : 1 ≤ k) (h : z.natAbs < 10 ^ k) : (text z).length ≤ k + 1 := by
  have := dec_len_le hk h
  unfold text
  split <;> simp <;> omega
/-- The sign and the rest of a text. -/
def body (l : List UInt8) : List UInt8 := if l.head? = some 45 then l.tail else l
/-- The integer with a text. -/
def Reads (l : List UInt8) (z : Int) : Prop := Formed (body l) ∧ ¬ (l.head? = some 45 ∧ body l = [48]) ∧ z = (if l.head? = some 45 then -(decVal (body l) : Int) else (decVal (body l) : Int))
theorem Reads.text {l : List UInt8} {z : Int} (h : Reads l z) : text z = l := by
  obtain ⟨h1, h2, h3⟩ := h
  have h4 := dec_of_val h1
  by_cases hs : l.head? = some 45
  · rw [if_pos hs] at h3
    obtain ⟨t, rfl⟩ : ∃ t, l = 45 :: t := by
      cases l with
      | nil => simp at hs
      | cons a t => simp at hs; exact ⟨t, by rw [hs]⟩
    have hb : body (45 :: t) = t := by simp [body]
    rw [hb] at h1 h2 h3 h4
    have hpos : 0 < decVal t := by
      rcases Nat.eq_zero_or_pos (decVal t) with h0 | h0
      · exfalso
        rw [h0, dec_small (by omega)] at h4
        exact h2 ⟨hs, h4.symm⟩
      · exact h0
    unfold Txt.text
    rw [if_pos (by omega), show z.natAbs = decVal t by omega, h4]
  · rw [if_neg hs] at h3
    have hb : body l = l := by simp [body, hs]
    rw [hb] at h1 h2 h3 h4
    unfold Txt.text
    rw [if_neg (by omega), show z.natAbs = decVal l by omega, h4]
theorem reads_text (z : Int) : Reads (text z) z := by
  have hf := formed_dec z.natAbs
  by_cases h : z < 0
  · have e : text z = 45 :: decDigits z.natAbs := by unfold text; rw [if_pos h]
    have hb : body (text z) = decDigits z.natAbs := by rw [e]; simp [body]
    have hh : (text z).head? = some 45 := by rw [e]; rfl
    refine ⟨by rw [hb]; exact hf, ?_, by rw [if_pos hh, hb, decVal_dec]; omega⟩
    rintro ⟨_, h2⟩
    rw [hb] at h2
    have := decVal_dec z.natAbs
    rw [h2] at this
    have h3 : decVal [48] = 0 := rfl
    omega
  · have e : text z = decDigits z.natAbs := by unfold text; rw [if_neg h]
    have hh : (text z).head? ≠ some 45 := by
      rw [e]
      intro hh
      cases hd : decDigits z.natAbs with
      | nil => rw [hd] at hh; simp at hh
      | cons a t => rw [hd] at hh; simp at hh; exact not45 (allDig_dec _) (by rw [hd, hh])
    have hb : body (text z) = decDigits z.natAbs := by rw [body, if_neg hh, e]
    exact ⟨by rw [hb]; exact hf, fun h => hh h.1, by rw [if_neg hh, hb, decVal_dec]; omega⟩
theorem Reads.uniq {l : List UInt8} {z z' : Int} (h : Reads l z) (h' : Reads l z') : z = z' := by rw [h.2.2, h'.2.2]
theorem Reads.body_len (l : List UInt8) : (body l).length ≤ l.length := by
  unfold body; split
  · simp
  · exact Nat.le_refl _
end Go.Txt

namespace Go.Proofs.YtbocpkjajocpiaaGreatDoor
set_option linter.unusedVariables false
open Go.RowKit Go.Mem Go.Dig
open Go.Lib (decDigits)

/-- The string with these bytes. -/
def St (l : List UInt8) : ByteArray := ⟨l.toArray⟩
theorem St_app (a b : List UInt8) : St a ++ St b = St (a ++ b) := by
  unfold St
  apply ByteArray.ext
  simp
theorem St_size (a : List UInt8) : (St a).size = a.length := by simp [St, ByteArray.size]
theorem run_slice_string_lh {P : Program} (w : World) (t : TypeId) (s : ByteArray) (ht : P.underlying t = some .string) (kl kh : IntKind) (l h : Int) (h0 : 0 ≤ l) (h1 : l ≤ h) (h2 : h ≤ s.size) :
    (Instr.slice t (.string s) (some (.int kl l)) (some (.int kh h)) none).run P w = .ok (.string (s.extract l.toNat h.toNat)) w := by
  have eh : (h.toNat : Int) = h := Int.toNat_of_nonneg (by omega)
  simp [Instr.slice, run_underlying ht, Instr.sliceBounds, run_sliceBound, sliced, *, eh, (by omega : 0 ≤ l), (by omega : 0 ≤ h)]
theorem dig_slice (P : Program) (t : TypeId) (ht : P.underlying t = some .string) (d : Nat) (hd : d < 10) (W : World) :
    (Instr.slice t (.string ⟨#[48, 49, 50, 51, 52, 53, 54, 55, 56, 57]⟩) (some (.int .i64 (d : Int))) (some (.int .i64 ((d : Int) + 1))) none).run P W = .ok (.string (St [UInt8.ofNat (48 + d)])) W := by
  have hz : (⟨#[48, 49, 50, 51, 52, 53, 54, 55, 56, 57]⟩ : ByteArray).size = 10 := rfl
  have h := run_slice_string_lh (P := P) W t ⟨#[48, 49, 50, 51, 52, 53, 54, 55, 56, 57]⟩ ht .i64 .i64 (d : Int) ((d : Int) + 1) (by omega) (by omega) (by rw [hz]; omega)
  rw [h]
  rcases (show d = 0 ∨ d = 1 ∨ d = 2 ∨ d = 3 ∨ d = 4 ∨ d = 5 ∨ d = 6 ∨ d = 7 ∨ d = 8 ∨ d = 9 by omega) with h | h | h | h | h | h | h | h | h | h <;> subst h <;> rfl

def DecI (T : List UInt8) (i : Nat) (l : List UInt8) : Prop := (if i = 0 then l else decDigits i ++ l) = T
theorem dec_step {k : Nat} {s t : List UInt8} (hk : k ≠ 0) (h : DecI t k s) : DecI t (k / 10) ([UInt8.ofNat (48 + k % 10)] ++ s) := by
  unfold DecI at h ⊢
  rw [if_neg hk] at h
  rw [← h]
  by_cases h1 : k < 10
  · rw [if_pos (by omega), Txt.dec_small h1, Nat.mod_eq_of_lt h1]
  · rw [if_neg (by omega), Txt.dec_big h1, List.append_assoc]

set_option maxHeartbeats 1000000 in
theorem decimal_any (d : Nat) (hd : d ≤ 9999) (w : World) :
    Calls Tryz.prog 79 #[.int .i64 d] w fun e w' => e = .returned (.string (St (decDigits d))) ∧ w = w' := by
  obtain ⟨T, hT⟩ : ∃ T, decDigits d = T := ⟨_, rfl⟩
  rw [hT]
  by_cases h0 : d = 0
  · subst h0
    obtain rfl : [48] = T := by rw [← hT, Txt.dec_small (by omega)]; rfl
    clear hT
    go_enter Tryz.func79, Tryz.ntmps79
    go_wp2
    go_ret
    exact ⟨rfl, rfl⟩
  · have HT := Lib.hid hT
    have hdz : ((d : Int) == 0) = false := by simp; omega
    clear hT
    go_enter Tryz.func79, Tryz.ntmps79
    go_wp2
    go_loop [5, 4, 6] (fun k s _ => ∃ (i : Nat) (b : ByteArray), k = .int .i64 (i : Int) ∧ s = .string b ∧ b.size + i ≤ 9999 ∧ Hid (∃ l, b = St l ∧ DecI T i l)) (fun k _ _ => (intOf k).toNat)
    case atStart => exact ⟨d, ⟨#[]⟩, rfl, rfl, by simp [ByteArray.size]; omega, [], rfl, by unfold DecI; rw [if_neg h0, List.append_nil]; exact HT.out⟩
    case round =>
      obtain ⟨i, b, rfl, rfl, hi, HI⟩ := hrel
      by_cases hz : i = 0
      · subst hz
        have hneg : decide ((d : Int) < 0) = false := by simp
        go_wp2
        go_ret
        obtain ⟨l, rfl, this⟩ := HI.out
        unfold DecI at this
        rw [if_pos rfl] at this
        subst this
        exact ⟨rfl, rfl⟩
      · have hzb : ((i : Int) != 0) = true := by simp; omega
        obtain ⟨r, hr⟩ : ∃ r, i % 10 = r := ⟨_, rfl⟩
        obtain ⟨q, hq⟩ : ∃ q, i / 10 = q := ⟨_, rfl⟩
        have hri : (i : Int) % 10 = (r : Int) := by omega
        have hqi : (i : Int) / 10 = (q : Int) := by omega
        have hrb : r < 10 := by omega
        have hqb : q < i := by omega
        have hsl := dig_slice Tryz.prog 9 Tryz.underlying9 r hrb
        obtain ⟨l, hbl, hdec⟩ := HI.out
        have hst := dec_step hz hdec
        rw [hr, hq] at hst
        obtain ⟨D, hD⟩ : ∃ D, St [UInt8.ofNat (48 + r)] = D := ⟨_, rfl⟩
        rw [hD] at hsl
        have hDs : D.size = 1 := by rw [← hD, St_size]; rfl
        have hsz : ¬ 9223372036854775807 < D.size + b.size := by omega
        have hnew : (D ++ b).size = D.size + b.size := by simp
        have HS : Hid (∃ l, D ++ b = St l ∧ DecI T q l) := ⟨_, by rw [← hD, hbl, St_app], hst⟩
        have HDS := Lib.hid (And.intro hDs hnew)
        have hrn : decide ((r : Int) < 0) = false := by simp
        clear hr hq hst HI hbl hdec hD hDs hnew
        go_wp2
        go_round
        case rel => exact ⟨q, _, rfl, rfl, by have := HDS.out; omega, HS.out⟩
        case measure => simp [intOf]; omega

/-- The text of digits, the first n of them read from the end. -/
def TxtI (l : List Nat) (k : Nat) (t : List UInt8) : Prop := t = decDigits (val 10000 (l.drop k))
theorem txt_step {l : List Nat} {k d : Nat} {t : List UInt8} (h : TxtI l (k + 1) t) (hd : l[k]? = some d) (hdb : d < 10000) (hpos : 0 < val 10000 (l.drop (k + 1))) : TxtI l k (t ++ Txt.pad 4 d) := by
  unfold TxtI at h ⊢
  have e := Txt.dec_pad 4 (val 10000 (l.drop (k + 1))) d (by omega) hpos
  rw [h, val_drop hd, show d + 10000 * val 10000 (l.drop (k + 1)) = val 10000 (l.drop (k + 1)) * 10 ^ 4 + d by omega, e]

theorem txt_top {l : List Nat} {z : Nat} {n : Nat} (h : Num 10000 l z) (hl : l.length = n) (hn : 1 ≤ n) : ∃ d, l[n - 1]? = some d ∧ d < 10000 ∧ 1 ≤ d ∧ TxtI l (n - 1) (decDigits d) := by
  obtain ⟨d, hd⟩ : ∃ d, l[n - 1]? = some d := ⟨_, List.getElem?_eq_getElem (by omega)⟩
  refine ⟨d, hd, h.digs.at_ hd, ?_, ?_⟩
  · rcases Nat.eq_zero_or_pos d with h0 | h0
    · exfalso
      apply h.trim
      rw [List.getLast?_eq_getElem?, hl, hd, h0]
    · exact h0
  · unfold TxtI
    rw [val_drop hd, List.drop_eq_nil_of_le (by omega), val_nil]
    simp
theorem val_drop_pos {l : List Nat} {z n k : Nat} (h : Num 10000 l z) (hl : l.length = n) (hk : k < n) : 0 < val 10000 (l.drop k) := by
  have h1 := val_pos (B := 10000) (by omega) (h.trim.drop k) (by intro e; have := congrArg List.length e; simp at this; omega)
  exact Nat.lt_of_lt_of_le (Nat.pow_pos (by omega)) h1
theorem pad4 {c : ByteArray} {d : Nat} (hd : d < 10000) (h : c = St (List.replicate (c.size - (decDigits d).length) 48 ++ decDigits d)) (h4 : c.size = 4) : c = St (Txt.pad 4 d) := by
  rw [Txt.pad_dec 4 d (by omega) (by omega), ← h4]
  exact h

set_option maxHeartbeats 1000000 in
set_option maxRecDepth 100000 in
theorem rtext_any (v : Value) (z : Int) (w : World) (hv : RN w v z) (hz : z.natAbs < 2 ^ 1000000) :
    Calls Tryz.prog 20 #[v] w fun e w' => e = .returned (.string (St (Txt.text z))) ∧ New w w' := by
  obtain ⟨s, A, n, c, rfl, hs, hm⟩ := hv
  have hn := bz_len hm hz
  obtain ⟨l, hr, hnc, hc, hN⟩ := hm
  have hll : l.length = n := by have := hr.len; rwa [nv_length] at this
  obtain ⟨T, hT⟩ : ∃ T, Txt.text z = T := ⟨_, rfl⟩
  rw [hT]
  clear hz
  by_cases h0 : n = 0
  · subst h0
    have hz0 : z.natAbs = 0 := (hN.nil_iff (by omega)).1 (List.eq_nil_of_length_eq_zero hll)
    obtain rfl : [48] = T := by
      rw [← hT]; unfold Txt.text; rw [if_neg (by omega), hz0, Txt.dec_small (by omega)]; rfl
    clear hr hN hll hT hz0 hs
    go_enter Tryz.func20, Tryz.ntmps20
    go_wp2
    go_ret
    exact ⟨rfl, (Chg.refl _ w).alloc _⟩
  · obtain ⟨d, hd, hdb, hd1, htop⟩ := txt_top hN hll (by omega)
    obtain ⟨j, hj⟩ : ∃ j, n - 1 = j := ⟨_, rfl⟩
    rw [hj] at hd htop
    have hji : (n : Int) - 1 = (j : Int) := by omega
    have hj2 : (n : Int) - 2 = (j : Int) - 1 := by omega
    have hjn : j < n := by omega
    have hn0 : ((n : Int) == 0) = false := by simp; omega
    obtain ⟨ad, u, rfl, hu, hcu⟩ := hr.at_ hjn
    obtain ⟨d', hd', rfl⟩ := nv_at hu
    obtain rfl : d = d' := by rw [hd] at hd'; injection hd'
    have H0 := Lib.hid (And.intro hr (And.intro hN (And.intro hll (And.intro hs (And.intro hT hj)))))
    have HTOP := Lib.hid htop
    have hdl := Txt.dec_len_le (u := d) (k := 4) (by omega) (by omega)
    have hcW := ((Chg.refl (fun _ => False) w).alloc (.cells #[.bool s, .slice (some ad) n c] 26)).cell hcu (fun h => h)
    clear hr hN hll hT hs hu hd' hd htop hj hcu
    go_enter Tryz.func20, Tryz.ntmps20
    go_wp2_with fail
    refine Calls.new1 ?_
    intro W hb1 hnW hzW
    refine (decimal_any d (by omega) W).mono ?_
    rintro e w1 ⟨rfl, rfl⟩
    have hk1 := hb1.cell 1 (u := .slice (some ad) n c) rfl
    have hk0 := hb1.cell 0 (u := .bool s) rfl
    have HW := Lib.hid hnW
    clear hcW hb1 hnW hzW
    obtain ⟨b0, hb0⟩ : ∃ b, St (decDigits d) = b := ⟨_, rfl⟩
    have hb0s : b0.size ≤ 4 := by rw [← hb0, St_size]; exact hdl
    rw [hb0]
    have HB0 : Hid (∃ t, b0 = St t ∧ TxtI l j t) := ⟨_, hb0.symm, HTOP.out⟩
    have hj4 : b0.size + 4 * j ≤ 4 * n := by omega
    clear hb0 HTOP hdl hji
    go_wp2_with fail
    clear hj2
    go_loop [4, 3, 5] (fun i o _ => ∃ (k : Nat) (b : ByteArray), i = .int .i64 ((k : Int) - 1) ∧ o = .string b ∧ k ≤ j ∧ b.size + 4 * k ≤ 4 * n ∧ Hid (∃ t, b = St t ∧ TxtI l k t)) (fun i _ _ => (intOf i + 1).toNat)
    case atStart => exact ⟨j, b0, rfl, rfl, Nat.le_refl _, hj4, HB0.out⟩
    case round =>
      obtain ⟨k, b, rfl, rfl, hkj, hbs, HI⟩ := hrel
      by_cases hk : k = 0
      · subst hk
        obtain ⟨t, hbt, htx⟩ := HI.out
        obtain ⟨hr, hN, hll, hs, hT, hj⟩ := H0.out
        have hfin : t = decDigits z.natAbs := by unfold TxtI at htx; rw [List.drop_zero, hN.val] at htx; exact htx
        have hneg : decide ((0 : Int) ≤ ((0 : Nat) : Int) - 1) = false := by simp
        rw [show (((0 : Nat) : Int) - 1) = -1 by rfl]
        have hbs2 : ¬ 9223372036854775807 < (⟨#[45]⟩ : ByteArray).size + b.size := by
          have : (⟨#[45]⟩ : ByteArray).size = 1 := rfl
          omega
        cases s
        · have e : St T = b := by rw [← hT, hbt, hfin]; unfold Txt.text; rw [if_neg (by simpa using hs.symm)]
          have HE := Lib.hid e
          clear hr hN hll hs hT hj hfin hbt htx HI e
          go_wp2
          go_ret
          rw [HE.out]
          exact ⟨rfl, HW.out⟩
        · have e : St T = ⟨#[45]⟩ ++ b := by
            rw [← hT, hbt, hfin]; unfold Txt.text; rw [if_pos (by simpa using hs.symm)]
            exact (St_app [45] _).symm
          have HE := Lib.hid e
          clear hr hN hll hs hT hj hfin hbt htx HI e
          go_wp2
          go_ret
          rw [HE.out]
          exact ⟨rfl, HW.out⟩
      · obtain ⟨i, rfl⟩ : ∃ i, k = i + 1 := ⟨k - 1, by omega⟩
        have hi0 : (((i + 1 : Nat) : Int) - 1) = (i : Int) := by omega
        rw [hi0]
        clear hi0
        obtain ⟨t, hbt, htx⟩ := HI.out
        obtain ⟨hr, hN, hll, hs, hT, hj⟩ := H0.out
        obtain ⟨ad2, u, hA, hu, hcu⟩ := (hr.new HW.out).at_ (show i < n by omega)
        injection hA with hA
        subst hA
        obtain ⟨d2, hd2, rfl⟩ := nv_at hu
        have hd2b : d2 < 10000 := hN.digs.at_ hd2
        have hst := txt_step htx hd2 hd2b (val_drop_pos hN hll (by omega))
        have hd2l := Txt.dec_len_le (u := d2) (k := 4) (by omega) (by omega)
        have HS := Lib.hid (And.intro hbt hst)
        clear hr hN hll hs hT hj hu hd2 hst hbt htx HI
        go_wp2_with fail
        refine (decimal_any d2 (by omega) W).mono ?_
        rintro e w1 ⟨rfl, rfl⟩
        obtain ⟨c0, hc0⟩ : ∃ b, St (decDigits d2) = b := ⟨_, rfl⟩
        have hc0s : c0.size ≤ 4 := by rw [← hc0, St_size]; exact hd2l
        have HC0 : Hid (c0 = St (List.replicate (c0.size - (decDigits d2).length) 48 ++ decDigits d2) ∧ (decDigits d2).length ≤ c0.size) := by
          have : c0.size = (decDigits d2).length := by rw [← hc0, St_size]
          exact ⟨by rw [this, Nat.sub_self]; exact hc0.symm, by omega⟩
        rw [hc0]
        clear hc0 hd2l hcu
        go_wp2_with fail
        go_loop [5] (fun s => ∃ c : ByteArray, s = .string c ∧ c.size ≤ 4 ∧ Hid (c = St (List.replicate (c.size - (decDigits d2).length) 48 ++ decDigits d2) ∧ (decDigits d2).length ≤ c.size)) (fun s => match s with | .string c => 4 - c.size | _ => 0)
        case atStart => exact ⟨c0, rfl, hc0s, HC0⟩
        case round =>
          obtain ⟨c1, rfl, hc1s, HC1⟩ := hrel
          by_cases h4 : c1.size < 4
          · have hlt : (c1.size : Int) < 4 := by omega
            have hsz : ¬ 9223372036854775807 < (⟨#[48]⟩ : ByteArray).size + c1.size := by
              have : (⟨#[48]⟩ : ByteArray).size = 1 := rfl
              omega
            have hnew : ((⟨#[48]⟩ : ByteArray) ++ c1).size = c1.size + 1 := by
              have : (⟨#[48]⟩ : ByteArray).size = 1 := rfl
              simp [this]; omega
            have HN2 : Hid ((⟨#[48]⟩ : ByteArray) ++ c1 = St (List.replicate (((⟨#[48]⟩ : ByteArray) ++ c1).size - (decDigits d2).length) 48 ++ decDigits d2) ∧ (decDigits d2).length ≤ ((⟨#[48]⟩ : ByteArray) ++ c1).size) := by
              obtain ⟨h1, h2⟩ := HC1.out
              refine ⟨?_, by omega⟩
              rw [hnew, show c1.size + 1 - (decDigits d2).length = (c1.size - (decDigits d2).length) + 1 by omega, List.replicate_succ, List.cons_append]
              have h3 := St_app [48] (List.replicate (c1.size - (decDigits d2).length) 48 ++ decDigits d2)
              rw [← h1] at h3
              exact h3
            have HNEW := Lib.hid hnew
            clear hnew HC1
            go_wp2
            go_round
            case rel => exact ⟨_, rfl, by rw [HNEW.out]; omega, HN2⟩
            case measure =>
              show 4 - ((⟨#[48]⟩ : ByteArray) ++ c1).size < 4 - c1.size
              rw [HNEW.out]; omega
          · have h44 : c1.size = 4 := by omega
            have hlt : decide ((c1.size : Int) < 4) = false := by simp; omega
            have hpad := pad4 hd2b HC1.out.1 h44
            have hsz : ¬ 9223372036854775807 < b.size + c1.size := by omega
            have hnew : (b ++ c1).size = b.size + 4 := by simp [h44]
            have HN3 : Hid (∃ t, b ++ c1 = St t ∧ TxtI l i t) := ⟨_, by rw [HS.out.1, hpad, St_app], HS.out.2⟩
            have HNEW := Lib.hid hnew
            clear hnew hpad HC1 h44
            go_wp2
            go_round
            case rel => exact ⟨i, _, rfl, rfl, by omega, by rw [HNEW.out]; omega, HN3⟩
            case measure => simp [intOf]
end Go.Proofs.YtbocpkjajocpiaaGreatDoor

namespace Go.Proofs.YtbocpkjajocpiaaGreatDoor
set_option linter.unusedVariables false
open Go.RowKit Go.Mem Go.Dig

/-- The closure step of addMag. -/
theorem addStep_any (p r cr : Nat) (hp : p < 4294967296) (hr : r < 4294967296) (hcr : cr ≤ 1) (g : Nat) (w : World) (hb : Blk w g 22 #[.int .u64 cr]) :
    Calls Tryz.prog 124 #[.int .u32 p, .int .u32 r, .pointer (some ⟨g, 0, none⟩)] w fun e w' => e = .returned (.int .u32 (((p + r + cr) % 4294967296 : Nat) : Int)) ∧ Blk w' g 22 #[.int .u64 (((p + r + cr) / 4294967296 : Nat) : Int)] ∧ Chg (fun k => k = g) w w' := by
  obtain ⟨v, hv⟩ : ∃ v, p + r + cr = v := ⟨_, rfl⟩
  rw [hv]
  have hvi : (cr : Int) + ((p : Int) + (r : Int)) = (v : Int) := by omega
  have hvb : v ≤ 8589934591 := by omega
  have hc := hb.cell 0 (u := .int .u64 cr) rfl
  have hf := hb.frozen 0
  have HB := Lib.hid hb
  clear hb hv
  go_enter Tryz.func124, Tryz.ntmps124
  go_wp2
  go_ret
  refine ⟨ret_int (by omega), ?_, ((Chg.refl (fun k => k = g) w).setCell (p := ⟨g, 0, none⟩) (fun _ => rfl) _).setCell (p := ⟨g, 0, none⟩) (fun _ => rfl) _⟩
  have := (HB.out.set1 (.int .u64 (v : Int))).set1 (.int .u64 ((v / 4294967296 : Nat) : Int))
  rw [show ((v : Int) / 4294967296) = ((v / 4294967296 : Nat) : Int) by omega]
  exact this
theorem own_frz {w : World} {base : Nat} {e : TypeId} {g n c : Nat} {xs : List Value} (h : w.ownsRow base e 1 (.slice (some ⟨g, 0, none⟩) n c) n xs) (hn : 0 < n) (i : Nat) : w.frozen? ⟨g, i, none⟩ = false := by
  obtain ⟨gg, hgg, _, _, hfz⟩ := own_form h hn
  have : g = gg := by simpa using hgg
  subst this
  exact hfz i
theorem set_mid (o : List Nat) (m k d : Nat) (hk : o.length = k) : (o ++ List.replicate (m + 1) 0).set k d = (o ++ [d]) ++ List.replicate m 0 := by
  subst hk
  rw [List.set_append_right _ _ (Nat.le_refl _), Nat.sub_self, List.replicate_succ, List.set_cons_zero, List.append_assoc]
  rfl

/-- Digits, whatever stands at the end. -/
structure DN (B : Nat) (l : List Nat) (n : Nat) : Prop where
  digs : Digs B l
  val : val B l = n
def WD (w : World) (A : Option Addr) (n c : Nat) (m : Nat) : Prop := ∃ l, Rd w A n (nv .u32 l) ∧ n ≤ c ∧ c ≤ 9223372036854775807 ∧ DN 4294967296 l m
theorem WM.wd {w : World} {A : Option Addr} {n c m : Nat} (h : WM w A n c m) : WD w A n c m := by
  obtain ⟨l, h1, h2, h3, h4⟩ := h
  exact ⟨l, h1, h2, h3, h4.digs, h4.val⟩
/-- What the loops of addMag hold. -/
def AdI (w W : World) (gs gc : Nat) (la lb : List Nat) (n k : Nat) (wr : World) : Prop :=
  ∃ o cr, AddI 4294967296 la lb k o cr ∧ wr.ownsRow gs 108 1 (.slice (some ⟨gs, 0, none⟩) (n + 1) (n + 1)) (n + 1) (nv .u32 (o ++ List.replicate (n + 1 - k) 0)) ∧ Blk wr gc 22 #[.int .u64 cr] ∧ Chg (fun j => j = gs ∨ j = gc) W wr

set_option maxRecDepth 100000 in
set_option maxHeartbeats 4000000 in
theorem addMag_ge (A : Option Addr) (n c : Nat) (A' : Option Addr) (n' c' : Nat) (x y : Nat) (w : World) (hx : WD w A n c x) (hy : WD w A' n' c' y) (hn : n ≤ 1000000) (hnn : n' ≤ n) :
    Calls Tryz.prog 76 #[.slice A n c, .slice A' n' c'] w fun e w' => ∃ R m d, e = .returned (.slice R m d) ∧ Hid (WM w' R m d (x + y) ∧ New w w') := by
  obtain ⟨la, ha, hc1, hc2, hNa⟩ := hx
  obtain ⟨lb, hb, hd1, hd2, hNb⟩ := hy
  have hla : la.length = n := by have := ha.len; rwa [nv_length] at this
  have hlb : lb.length = n' := by have := hb.len; rwa [nv_length] at this
  have H0 := Lib.hid (And.intro ha (And.intro hb (And.intro hNa (And.intro hNb (And.intro hla hlb)))))
  have htest : decide ((n : Int) < (n' : Int)) = false := by simp; omega
  have htest' : decide (n < n') = false := by simp; omega
  clear ha hb hNa hNb hla hlb
  go_enter Tryz.func76, Tryz.ntmps76
  go_wp2_with (at_make; refine wpList_mk elemU32 rfl rfl _ _ rfl (n := n + 1) rfl rfl (by omega) (by omega) (by omega) (by simp only [maxLen]; omega) ?_; intro w1 hown hg hz; have HMK := Lib.hid (And.intro hown (And.intro hg hz)); clear hown hg hz)
  obtain ⟨ho, hnw, hz⟩ := HMK.out
  obtain ⟨gs, hgs⟩ : ∃ g, w.heap.size = g := ⟨_, rfl⟩
  obtain ⟨gc, hgc⟩ : ∃ g, w1.heap.size = g := ⟨_, rfl⟩
  have hgcs : gc = gs + 1 := by omega
  refine Code.new1 ?_
  intro W hbc hnW hzW
  rw [hgs] at ho
  rw [hgc] at hbc
  rw [show List.replicate (n + 1) (Value.int .u32 0) = nv .u32 ([] ++ List.replicate (n + 1 - 0) 0) by simp [nv]] at ho
  have HG := Lib.hid (And.intro hgs hgcs)
  have HW := Lib.hid (And.intro (hnw.new hnW) (And.intro (own_chg ho hnW (fun _ _ h => h)) hbc))
  simp only [hgs, hgc]
  clear hgs hgc hgcs hnw hz ho hbc hnW hzW HMK
  go_loopw [24] (fun i wr => ∃ k : Nat, i = .int .i64 k ∧ k ≤ n' ∧ Hid (AdI w W gs gc la lb n k wr)) (fun i _ => n' - (intOf i).toNat)
  case atStart => exact ⟨0, rfl, by omega, [], 0, AddI.start _ _ _, HW.out.2.1, HW.out.2.2, Chg.refl _ _⟩
  case round =>
    obtain ⟨i, rfl, hi, HO⟩ := hrel
    by_cases hlt : i < n'
    · obtain ⟨wo, rfl⟩ : ∃ wo : World, wo = wr := ⟨_, rfl⟩
      obtain ⟨ha, hb, hNa, hNb, hla, hlb⟩ := H0.out
      obtain ⟨o, cr, hA, hown, hbc, hch⟩ := HO.out
      have hchg : Chg (fun j => j = gs ∨ j = gc) w wo := (HW.out.1.mono (fun _ _ h => h.elim)).trans hch (fun _ _ h => h)
      obtain ⟨ad, u, rfl, hu, hcu⟩ := (ha.chg hchg (fun k _ h e => by have := HG.out; omega)).at_ (show i < n by omega)
      obtain ⟨bd, v, rfl, hv, hcv⟩ := (hb.chg hchg (fun k _ h e => by have := HG.out; omega)).at_ hlt
      obtain ⟨p, hp, rfl⟩ := nv_at hu
      obtain ⟨r, hr, rfl⟩ := nv_at hv
      have hpb := hNa.digs.at_ hp
      have hrb := hNb.digs.at_ hr
      have hst := hA.step (by omega) hNa.digs hNb.digs
      rw [dg_some hp, dg_some hr] at hst
      have hcrb := hA.carry
      obtain ⟨q, hq⟩ : ∃ q, (p + r + cr) % 4294967296 = q := ⟨_, rfl⟩
      obtain ⟨cr2, hcr2⟩ : ∃ c2, (p + r + cr) / 4294967296 = c2 := ⟨_, rfl⟩
      have hol : (o ++ List.replicate (n + 1 - i) 0)[i]? = some 0 := by
        obtain ⟨m, hm⟩ : ∃ m, n + 1 - i = m + 1 := ⟨n - i, by omega⟩
        rw [hm, List.getElem?_append_right (by rw [hA.len]; exact Nat.le_refl _), hA.len, Nat.sub_self, List.replicate_succ]
        rfl
      have hcs := own_cell hown (i := i) (u := .int .u32 (0 : Nat)) (by rw [nv, List.getElem?_map, hol]; rfl)
      obtain ⟨gg, hgg, _, hgsz, hfz⟩ := own_form hown (by omega)
      have hgg' : gs = gg := by simpa using hgg
      subst hgg'
      have hf := hfz i
      have hin : (i : Int) < (n : Int) := by omega
      have hin1 : (i : Int) < (n : Int) + 1 := by omega
      have hstep : ∀ W', New wo W' → Calls Tryz.prog 124 #[.int .u32 p, .int .u32 r, .pointer (some ⟨gc, 0, none⟩)] W' fun e w' => e = .returned (.int .u32 (q : Int)) ∧ Hid (Blk w' gc 22 #[.int .u64 (cr2 : Int)] ∧ Chg (fun k => k = gc) wo w') := fun W' h =>
        (addStep_any p r cr hpb hrb hcrb gc W' (hbc.chg h (fun h => h))).mono fun e w' ⟨h1, h2, h3⟩ => ⟨by rw [h1, hq], by rw [← hcr2]; exact h2, (h.mono (fun _ _ h => h.elim)).trans h3 (fun _ _ h => h)⟩
      rw [hq, hcr2] at hst
      have HS := Lib.hid (And.intro hst (And.intro hown hch))
      have HST := Lib.hid hstep
      have HA := Lib.hid (fun W' (h : Chg (fun k => k = gc) wo W') => And.intro (own_chg hown h (fun k hk e => by have := HG.out; simp [blk] at hk; omega)) (hA.len))
      clear ha hb hNa hNb hla hlb hA hown hbc hch hchg hu hv hp hr hst hol hgg hfz hstep hq hcr2
      go_wp2_with fail
      go_region_with (first
        | (go_at_call 124; refine (HST.out _ ?_).mono ?_; exact (Chg.refl _ _).drew; rintro e w5 ⟨rfl, H5⟩; have hk5 := own_cell (HA.out w5 H5.out.2).1 (i := i) (u := .int .u32 (0 : Nat)) (by rw [nv, List.getElem?_map, List.getElem?_append_right (by rw [(HA.out w5 H5.out.2).2]; exact Nat.le_refl _), (HA.out w5 H5.out.2).2, Nat.sub_self, show n + 1 - i = (n - i) + 1 by omega, List.replicate_succ]; rfl); have hf5 := own_frz (HA.out w5 H5.out.2).1 (by omega) i))
      all_goals
        go_wp2
        go_roundw
        case rel =>
          obtain ⟨hst, _, hch⟩ := HS.out
          obtain ⟨hbc5, hc5⟩ := H5.out
          obtain ⟨hown5, hol⟩ := HA.out w5 hc5
          have hset := own_set hown5 i (.int .u32 (q : Int)) (by omega)
          rw [nv_set, show n + 1 - i = (n - i) + 1 by omega, set_mid o (n - i) i q hol] at hset
          refine ⟨i + 1, by go_num, by omega, o ++ [q], cr2, hst, by rw [show n + 1 - (i + 1) = n - i by omega]; exact hset, hbc5.far (p := ⟨gs, i, none⟩) (by have := HG.out; dsimp only; omega) _, ?_⟩
          exact (hch.trans (hc5.mono (fun _ _ h => .inr h)) (fun _ _ h => h)).setCell (fun _ => .inl rfl) _
        case measure => simp [intOf]; omega
    · obtain rfl : n' = i := by omega
      go_wp2_with fail
      go_loopw [9] (fun v wr => ∃ k : Nat, v = .int .i64 k ∧ n' ≤ k ∧ k ≤ n ∧ Hid (AdI w W gs gc la lb n k wr)) (fun v _ => n - (intOf v).toNat)
      case atStart => exact ⟨n', rfl, Nat.le_refl _, by omega, HO.out⟩
      case round =>
        clear HO
        obtain ⟨wo, rfl⟩ : ∃ wo : World, wo = wr := ⟨_, rfl⟩
        obtain ⟨i, rfl, hi1, hi2, HO⟩ := hrel
        obtain ⟨ha, hb, hNa, hNb, hla, hlb⟩ := H0.out
        obtain ⟨o, cr, hA, hown, hbc, hch⟩ := HO.out
        have hchg : Chg (fun j => j = gs ∨ j = gc) w wo := (HW.out.1.mono (fun _ _ h => h.elim)).trans hch (fun _ _ h => h)
        have hcrb := hA.carry
        by_cases hlt : i < n
        · obtain ⟨ad, u, rfl, hu, hcu⟩ := (ha.chg hchg (fun k _ h e => by have := HG.out; omega)).at_ hlt
          obtain ⟨p, hp, rfl⟩ := nv_at hu
          have hpb := hNa.digs.at_ hp
          have hst := hA.step (by omega) hNa.digs hNb.digs
          rw [dg_some hp, dg_none (by omega)] at hst
          obtain ⟨q, hq⟩ : ∃ q, (p + 0 + cr) % 4294967296 = q := ⟨_, rfl⟩
          obtain ⟨cr2, hcr2⟩ : ∃ c2, (p + 0 + cr) / 4294967296 = c2 := ⟨_, rfl⟩
          rw [hq, hcr2] at hst
          have hstep := addStep_any p 0 cr hpb (by omega) hcrb gc wo hbc
          rw [hq, hcr2, show (((0 : Nat)) : Int) = 0 from rfl] at hstep
          have hkeep := fun W' (h : Chg (fun k => k = gc) wo W') => And.intro (own_chg hown h (fun k hk e => by have := HG.out; simp [blk] at hk; omega)) hA.len
          have HS := Lib.hid (And.intro hst (And.intro hch (And.intro hstep hkeep)))
          have hin : (i : Int) < (n : Int) := by omega
          clear ha hb hNa hNb hla hlb hA hown hbc hch hchg hu hp hst hq hcr2 hstep hkeep
          go_wp2_with fail
          refine HS.out.2.2.1.mono ?_
          rintro e w5 ⟨rfl, hbc5, hc5⟩
          obtain ⟨hown5, hol⟩ := HS.out.2.2.2 w5 hc5
          have hk5 := own_cell hown5 (i := i) (u := .int .u32 (0 : Nat)) (by rw [nv, List.getElem?_map, List.getElem?_append_right (by rw [hol]; exact Nat.le_refl _), hol, Nat.sub_self, show n + 1 - i = (n - i) + 1 by omega, List.replicate_succ]; rfl)
          have hf5 := own_frz hown5 (by omega) i
          have hin1 : (i : Int) < (n : Int) + 1 := by omega
          have H5 := Lib.hid (And.intro hbc5 (And.intro hc5 (And.intro hown5 hol)))
          clear hbc5 hc5 hown5 hol
          go_wp2
          go_roundw
          case rel =>
            obtain ⟨hst, hch, _⟩ := HS.out
            obtain ⟨hbc5, hc5, hown5, hol⟩ := H5.out
            have hset := own_set hown5 i (.int .u32 (q : Int)) (by omega)
            rw [nv_set, show n + 1 - i = (n - i) + 1 by omega, set_mid o (n - i) i q hol] at hset
            refine ⟨i + 1, by go_num, by omega, by omega, o ++ [q], cr2, hst, by rw [show n + 1 - (i + 1) = n - i by omega]; exact hset, hbc5.far (p := ⟨gs, i, none⟩) (by have := HG.out; dsimp only; omega) _, ?_⟩
            exact (hch.trans (hc5.mono (fun _ _ h => .inr h)) (fun _ _ h => h)).setCell (fun _ => .inl rfl) _
          case measure => simp [intOf]; omega
        · obtain rfl : n = i := by omega
          have hk0 := hbc.cell 0 (u := .int .u64 cr) rfl
          have hks := own_cell hown (i := n) (u := .int .u32 (0 : Nat)) (by rw [nv, List.getElem?_map, List.getElem?_append_right (by rw [hA.len]; exact Nat.le_refl _), hA.len, Nat.sub_self, show n + 1 - n = 0 + 1 by omega, List.replicate_succ]; rfl)
          have hfs := own_frz hown (by omega) n
          have hset := own_set hown n (.int .u32 (cr : Int)) (by omega)
          rw [nv_set, show n + 1 - n = 0 + 1 by omega, set_mid o 0 n cr hA.len, List.replicate_zero, List.append_nil] at hset
          have hval : val 4294967296 (o ++ [cr]) = x + y := by
            rw [val_snoc, hA.len, hA.eq, List.take_of_length_le (by omega), List.take_of_length_le (by omega), hNa.val, hNb.val]
          have hdg : Digs 4294967296 (o ++ [cr]) := hA.digs.snoc (by omega)
          have hn1 : New w (wo.setCell ⟨gs, n, none⟩ (.int .u32 (cr : Int))) := Chg.owned HW.out.1 (hch.setCell (p := ⟨gs, n, none⟩) (fun _ => .inl rfl) _) (fun k e => by have := HG.out; omega)
          have hcri : (cr : Int) % 4294967296 = (cr : Int) := by omega
          have HF := Lib.hid (And.intro hset (And.intro hval (And.intro hdg hn1)))
          clear ha hb hNa hNb hla hlb hA hown hbc hch hchg hset hval hdg hn1
          go_wp2_with fail
          obtain ⟨hset, hval, hdg, hn1⟩ := HF.out
          refine (trim_wm _ (n + 1) (n + 1) (o ++ [cr]) _ (Rd.of_own hset) hdg (Nat.le_refl _) (by omega)).mono ?_
          rintro e w2 ⟨T, rfl, HT, rfl⟩
          clear hset hval hdg hn1
          go_wp2
          go_ret
          obtain ⟨hset, hval, hdg, hn1⟩ := HF.out
          have hT := HT.out.1
          rw [hval] at hT
          exact ⟨_, _, _, rfl, hT, hn1⟩

set_option maxRecDepth 100000 in
set_option maxHeartbeats 4000000 in
theorem addMag_lt (A : Option Addr) (n c : Nat) (A' : Option Addr) (n' c' : Nat) (x y : Nat) (w : World) (hx : WD w A n c x) (hy : WD w A' n' c' y) (hn : n ≤ 1000000) (hnn : n' < n) :
    Calls Tryz.prog 76 #[.slice A' n' c', .slice A n c] w fun e w' => ∃ R m d, e = .returned (.slice R m d) ∧ Hid (WM w' R m d (x + y) ∧ New w w') := by
  obtain ⟨la, ha, hc1, hc2, hNa⟩ := hx
  obtain ⟨lb, hb, hd1, hd2, hNb⟩ := hy
  have hla : la.length = n := by have := ha.len; rwa [nv_length] at this
  have hlb : lb.length = n' := by have := hb.len; rwa [nv_length] at this
  have H0 := Lib.hid (And.intro ha (And.intro hb (And.intro hNa (And.intro hNb (And.intro hla hlb)))))
  have htest : (n' : Int) < (n : Int) := by omega
  clear ha hb hNa hNb hla hlb
  go_enter Tryz.func76, Tryz.ntmps76
  go_wp2_with (at_make; refine wpList_mk elemU32 rfl rfl _ _ rfl (n := n + 1) rfl rfl (by omega) (by omega) (by omega) (by simp only [maxLen]; omega) ?_; intro w1 hown hg hz; have HMK := Lib.hid (And.intro hown (And.intro hg hz)); clear hown hg hz)
  obtain ⟨ho, hnw, hz⟩ := HMK.out
  obtain ⟨gs, hgs⟩ : ∃ g, w.heap.size = g := ⟨_, rfl⟩
  obtain ⟨gc, hgc⟩ : ∃ g, w1.heap.size = g := ⟨_, rfl⟩
  have hgcs : gc = gs + 1 := by omega
  refine Code.new1 ?_
  intro W hbc hnW hzW
  rw [hgs] at ho
  rw [hgc] at hbc
  rw [show List.replicate (n + 1) (Value.int .u32 0) = nv .u32 ([] ++ List.replicate (n + 1 - 0) 0) by simp [nv]] at ho
  have HG := Lib.hid (And.intro hgs hgcs)
  have HW := Lib.hid (And.intro (hnw.new hnW) (And.intro (own_chg ho hnW (fun _ _ h => h)) hbc))
  simp only [hgs, hgc]
  clear hgs hgc hgcs hnw hz ho hbc hnW hzW HMK
  go_loopw [24] (fun i wr => ∃ k : Nat, i = .int .i64 k ∧ k ≤ n' ∧ Hid (AdI w W gs gc la lb n k wr)) (fun i _ => n' - (intOf i).toNat)
  case atStart => exact ⟨0, rfl, by omega, [], 0, AddI.start _ _ _, HW.out.2.1, HW.out.2.2, Chg.refl _ _⟩
  case round =>
    obtain ⟨i, rfl, hi, HO⟩ := hrel
    by_cases hlt : i < n'
    · obtain ⟨wo, rfl⟩ : ∃ wo : World, wo = wr := ⟨_, rfl⟩
      obtain ⟨ha, hb, hNa, hNb, hla, hlb⟩ := H0.out
      obtain ⟨o, cr, hA, hown, hbc, hch⟩ := HO.out
      have hchg : Chg (fun j => j = gs ∨ j = gc) w wo := (HW.out.1.mono (fun _ _ h => h.elim)).trans hch (fun _ _ h => h)
      obtain ⟨ad, u, rfl, hu, hcu⟩ := (ha.chg hchg (fun k _ h e => by have := HG.out; omega)).at_ (show i < n by omega)
      obtain ⟨bd, v, rfl, hv, hcv⟩ := (hb.chg hchg (fun k _ h e => by have := HG.out; omega)).at_ hlt
      obtain ⟨p, hp, rfl⟩ := nv_at hu
      obtain ⟨r, hr, rfl⟩ := nv_at hv
      have hpb := hNa.digs.at_ hp
      have hrb := hNb.digs.at_ hr
      have hst := hA.step (by omega) hNa.digs hNb.digs
      rw [dg_some hp, dg_some hr] at hst
      have hcrb := hA.carry
      obtain ⟨q, hq⟩ : ∃ q, (p + r + cr) % 4294967296 = q := ⟨_, rfl⟩
      obtain ⟨cr2, hcr2⟩ : ∃ c2, (p + r + cr) / 4294967296 = c2 := ⟨_, rfl⟩
      have hol : (o ++ List.replicate (n + 1 - i) 0)[i]? = some 0 := by
        obtain ⟨m, hm⟩ : ∃ m, n + 1 - i = m + 1 := ⟨n - i, by omega⟩
        rw [hm, List.getElem?_append_right (by rw [hA.len]; exact Nat.le_refl _), hA.len, Nat.sub_self, List.replicate_succ]
        rfl
      have hcs := own_cell hown (i := i) (u := .int .u32 (0 : Nat)) (by rw [nv, List.getElem?_map, hol]; rfl)
      obtain ⟨gg, hgg, _, hgsz, hfz⟩ := own_form hown (by omega)
      have hgg' : gs = gg := by simpa using hgg
      subst hgg'
      have hf := hfz i
      have hin : (i : Int) < (n : Int) := by omega
      have hin1 : (i : Int) < (n : Int) + 1 := by omega
      have hstep : ∀ W', New wo W' → Calls Tryz.prog 124 #[.int .u32 p, .int .u32 r, .pointer (some ⟨gc, 0, none⟩)] W' fun e w' => e = .returned (.int .u32 (q : Int)) ∧ Hid (Blk w' gc 22 #[.int .u64 (cr2 : Int)] ∧ Chg (fun k => k = gc) wo w') := fun W' h =>
        (addStep_any p r cr hpb hrb hcrb gc W' (hbc.chg h (fun h => h))).mono fun e w' ⟨h1, h2, h3⟩ => ⟨by rw [h1, hq], by rw [← hcr2]; exact h2, (h.mono (fun _ _ h => h.elim)).trans h3 (fun _ _ h => h)⟩
      rw [hq, hcr2] at hst
      have HS := Lib.hid (And.intro hst (And.intro hown hch))
      have HST := Lib.hid hstep
      have HA := Lib.hid (fun W' (h : Chg (fun k => k = gc) wo W') => And.intro (own_chg hown h (fun k hk e => by have := HG.out; simp [blk] at hk; omega)) (hA.len))
      clear ha hb hNa hNb hla hlb hA hown hbc hch hchg hu hv hp hr hst hol hgg hfz hstep hq hcr2
      go_wp2_with fail
      go_region_with (first
        | (go_at_call 124; refine (HST.out _ ?_).mono ?_; exact (Chg.refl _ _).drew; rintro e w5 ⟨rfl, H5⟩; have hk5 := own_cell (HA.out w5 H5.out.2).1 (i := i) (u := .int .u32 (0 : Nat)) (by rw [nv, List.getElem?_map, List.getElem?_append_right (by rw [(HA.out w5 H5.out.2).2]; exact Nat.le_refl _), (HA.out w5 H5.out.2).2, Nat.sub_self, show n + 1 - i = (n - i) + 1 by omega, List.replicate_succ]; rfl); have hf5 := own_frz (HA.out w5 H5.out.2).1 (by omega) i))
      all_goals
        go_wp2
        go_roundw
        case rel =>
          obtain ⟨hst, _, hch⟩ := HS.out
          obtain ⟨hbc5, hc5⟩ := H5.out
          obtain ⟨hown5, hol⟩ := HA.out w5 hc5
          have hset := own_set hown5 i (.int .u32 (q : Int)) (by omega)
          rw [nv_set, show n + 1 - i = (n - i) + 1 by omega, set_mid o (n - i) i q hol] at hset
          refine ⟨i + 1, by go_num, by omega, o ++ [q], cr2, hst, by rw [show n + 1 - (i + 1) = n - i by omega]; exact hset, hbc5.far (p := ⟨gs, i, none⟩) (by have := HG.out; dsimp only; omega) _, ?_⟩
          exact (hch.trans (hc5.mono (fun _ _ h => .inr h)) (fun _ _ h => h)).setCell (fun _ => .inl rfl) _
        case measure => simp [intOf]; omega
    · obtain rfl : n' = i := by omega
      go_wp2_with fail
      go_loopw [9] (fun v wr => ∃ k : Nat, v = .int .i64 k ∧ n' ≤ k ∧ k ≤ n ∧ Hid (AdI w W gs gc la lb n k wr)) (fun v _ => n - (intOf v).toNat)
      case atStart => exact ⟨n', rfl, Nat.le_refl _, by omega, HO.out⟩
      case round =>
        clear HO
        obtain ⟨wo, rfl⟩ : ∃ wo : World, wo = wr := ⟨_, rfl⟩
        obtain ⟨i, rfl, hi1, hi2, HO⟩ := hrel
        obtain ⟨ha, hb, hNa, hNb, hla, hlb⟩ := H0.out
        obtain ⟨o, cr, hA, hown, hbc, hch⟩ := HO.out
        have hchg : Chg (fun j => j = gs ∨ j = gc) w wo := (HW.out.1.mono (fun _ _ h => h.elim)).trans hch (fun _ _ h => h)
        have hcrb := hA.carry
        by_cases hlt : i < n
        · obtain ⟨ad, u, rfl, hu, hcu⟩ := (ha.chg hchg (fun k _ h e => by have := HG.out; omega)).at_ hlt
          obtain ⟨p, hp, rfl⟩ := nv_at hu
          have hpb := hNa.digs.at_ hp
          have hst := hA.step (by omega) hNa.digs hNb.digs
          rw [dg_some hp, dg_none (by omega)] at hst
          obtain ⟨q, hq⟩ : ∃ q, (p + 0 + cr) % 4294967296 = q := ⟨_, rfl⟩
          obtain ⟨cr2, hcr2⟩ : ∃ c2, (p + 0 + cr) / 4294967296 = c2 := ⟨_, rfl⟩
          rw [hq, hcr2] at hst
          have hstep := addStep_any p 0 cr hpb (by omega) hcrb gc wo hbc
          rw [hq, hcr2, show (((0 : Nat)) : Int) = 0 from rfl] at hstep
          have hkeep := fun W' (h : Chg (fun k => k = gc) wo W') => And.intro (own_chg hown h (fun k hk e => by have := HG.out; simp [blk] at hk; omega)) hA.len
          have HS := Lib.hid (And.intro hst (And.intro hch (And.intro hstep hkeep)))
          have hin : (i : Int) < (n : Int) := by omega
          clear ha hb hNa hNb hla hlb hA hown hbc hch hchg hu hp hst hq hcr2 hstep hkeep
          go_wp2_with fail
          refine HS.out.2.2.1.mono ?_
          rintro e w5 ⟨rfl, hbc5, hc5⟩
          obtain ⟨hown5, hol⟩ := HS.out.2.2.2 w5 hc5
          have hk5 := own_cell hown5 (i := i) (u := .int .u32 (0 : Nat)) (by rw [nv, List.getElem?_map, List.getElem?_append_right (by rw [hol]; exact Nat.le_refl _), hol, Nat.sub_self, show n + 1 - i = (n - i) + 1 by omega, List.replicate_succ]; rfl)
          have hf5 := own_frz hown5 (by omega) i
          have hin1 : (i : Int) < (n : Int) + 1 := by omega
          have H5 := Lib.hid (And.intro hbc5 (And.intro hc5 (And.intro hown5 hol)))
          clear hbc5 hc5 hown5 hol
          go_wp2
          go_roundw
          case rel =>
            obtain ⟨hst, hch, _⟩ := HS.out
            obtain ⟨hbc5, hc5, hown5, hol⟩ := H5.out
            have hset := own_set hown5 i (.int .u32 (q : Int)) (by omega)
            rw [nv_set, show n + 1 - i = (n - i) + 1 by omega, set_mid o (n - i) i q hol] at hset
            refine ⟨i + 1, by go_num, by omega, by omega, o ++ [q], cr2, hst, by rw [show n + 1 - (i + 1) = n - i by omega]; exact hset, hbc5.far (p := ⟨gs, i, none⟩) (by have := HG.out; dsimp only; omega) _, ?_⟩
            exact (hch.trans (hc5.mono (fun _ _ h => .inr h)) (fun _ _ h => h)).setCell (fun _ => .inl rfl) _
          case measure => simp [intOf]; omega
        · obtain rfl : n = i := by omega
          have hk0 := hbc.cell 0 (u := .int .u64 cr) rfl
          have hks := own_cell hown (i := n) (u := .int .u32 (0 : Nat)) (by rw [nv, List.getElem?_map, List.getElem?_append_right (by rw [hA.len]; exact Nat.le_refl _), hA.len, Nat.sub_self, show n + 1 - n = 0 + 1 by omega, List.replicate_succ]; rfl)
          have hfs := own_frz hown (by omega) n
          have hset := own_set hown n (.int .u32 (cr : Int)) (by omega)
          rw [nv_set, show n + 1 - n = 0 + 1 by omega, set_mid o 0 n cr hA.len, List.replicate_zero, List.append_nil] at hset
          have hval : val 4294967296 (o ++ [cr]) = x + y := by
            rw [val_snoc, hA.len, hA.eq, List.take_of_length_le (by omega), List.take_of_length_le (by omega), hNa.val, hNb.val]
          have hdg : Digs 4294967296 (o ++ [cr]) := hA.digs.snoc (by omega)
          have hn1 : New w (wo.setCell ⟨gs, n, none⟩ (.int .u32 (cr : Int))) := Chg.owned HW.out.1 (hch.setCell (p := ⟨gs, n, none⟩) (fun _ => .inl rfl) _) (fun k e => by have := HG.out; omega)
          have hcri : (cr : Int) % 4294967296 = (cr : Int) := by omega
          have HF := Lib.hid (And.intro hset (And.intro hval (And.intro hdg hn1)))
          clear ha hb hNa hNb hla hlb hA hown hbc hch hchg hset hval hdg hn1
          go_wp2_with fail
          obtain ⟨hset, hval, hdg, hn1⟩ := HF.out
          refine (trim_wm _ (n + 1) (n + 1) (o ++ [cr]) _ (Rd.of_own hset) hdg (Nat.le_refl _) (by omega)).mono ?_
          rintro e w2 ⟨T, rfl, HT, rfl⟩
          clear hset hval hdg hn1
          go_wp2
          go_ret
          obtain ⟨hset, hval, hdg, hn1⟩ := HF.out
          have hT := HT.out.1
          rw [hval] at hT
          exact ⟨_, _, _, rfl, hT, hn1⟩

theorem addMag_wd (A : Option Addr) (n c : Nat) (A' : Option Addr) (n' c' : Nat) (x y : Nat) (w : World) (hx : WD w A n c x) (hy : WD w A' n' c' y) (hn : n ≤ 1000000) (hn' : n' ≤ 1000000) :
    Calls Tryz.prog 76 #[.slice A n c, .slice A' n' c'] w fun e w' => ∃ R m d, e = .returned (.slice R m d) ∧ Hid (WM w' R m d (x + y) ∧ New w w') := by
  rcases Nat.lt_or_ge n n' with h | h
  · have := addMag_lt A' n' c' A n c y x w hy hx hn' h
    rwa [Nat.add_comm y x] at this
  · exact addMag_ge A n c A' n' c' x y w hx hy hn h
theorem addMag_any (A : Option Addr) (n c : Nat) (A' : Option Addr) (n' c' : Nat) (x y : Nat) (w : World) (hx : WM w A n c x) (hy : WM w A' n' c' y) (hn : n ≤ 1000000) (hn' : n' ≤ 1000000) :
    Calls Tryz.prog 76 #[.slice A n c, .slice A' n' c'] w fun e w' => ∃ R m d, e = .returned (.slice R m d) ∧ Hid (WM w' R m d (x + y) ∧ New w w') :=
  addMag_wd A n c A' n' c' x y w hx.wd hy.wd hn hn'
end Go.Proofs.YtbocpkjajocpiaaGreatDoor

namespace Go.Mem
set_option linter.unusedVariables false
open Go.RowKit
/-- copy of a whole slice into a row of the call's own. -/
theorem wpList_cp {P : Program} {w : World} {t e : TypeId} {z : Value} {bytes : Nat} (hE : Elem P t e z bytes) {ops : Array Oper} {rest : List Oper} {o : Oper} {a : Act} {Q : Exit → Act → World → Prop} (hgd : o.guard = none) (d s : Operand)
    (ho : o.op = .call { callee := .builtin .copy, args := #[d, s], argTypes := #[t, t] }) {g n base k : Nat} {xs ys : List Value} (hd : a.eval d = .slice (some ⟨g, 0, none⟩) k k) (hown : w.ownsRow base e 1 (.slice (some ⟨g, 0, none⟩) k k) k xs)
    {A : Option Addr} {c : Nat} (hs : a.eval s = .slice A n c) (hnk : n ≤ k) (hr : Rd w A n ys) (h1 : ∀ v ∈ ys, v.oneCell' = true)
    (h : ∀ w', w'.ownsRow base e 1 (.slice (some ⟨g, 0, none⟩) k k) k (ys ++ xs.drop n) → Chg (fun j => j = g) w w' → wpList P ops Q rest (a.put o.dst (goInt n)) w') :
    wpList P ops Q (o :: rest) a w := by
  obtain ⟨ht, ⟨i, hi, hz0, hz1, hz2⟩, hzs⟩ := hE
  have hsz : (P.info? e).map (·.size) = some 1 := by rw [hi]; simp [hz1]
  have hyl := hr.len
  rcases hown.2 with ⟨hv, _⟩ | ⟨g', cap, cur, hv, hbg, hg, hnc, hcm, hcs, htake⟩
  · cases hv
  · injection hv with hv1 _ hv3
    injection hv1 with hv1
    injection hv1 with hv1
    subst hv1 hv3
    rw [Nat.mul_one] at hcs htake
    have hxs : cur.toList = xs := by rw [← htake, List.take_of_length_le (by simp [hcs])]
    rcases Nat.eq_zero_or_pos n with h0 | h0
    · subst h0
      have hy0 : ys = [] := List.eq_nil_of_length_eq_zero hyl
      subst hy0
      refine wpList_copy_nothing hgd d s t t ho e ht hsz _ _ _ _ _ _ hd hs (by simp) ?_
      exact h w (by simpa using hown) (Chg.refl _ _)
    · obtain ⟨ad, rfl, hcell⟩ := hr.2 h0
      refine wpList_copy_own hgd d s t t ho e ht hsz g 0 k k ad n c hd hs cur e hg ys (by rw [hyl]; simp [Nat.min_eq_left hnk]) hcell (by rw [hyl, hcs]; omega) h1 ?_
      rw [hyl]
      refine h _ ⟨?_, .inr ⟨g, k, _, rfl, hbg, setRow_heap w g cur _ e _ hg, Nat.le_refl _, hcm, ?_, ?_⟩⟩ ⟨rfl, rfl, rfl, by simp [World.setRow], fun j hj hn => setRow_other w g j _ hn⟩
      · have := hown.1
        rw [List.length_append, List.length_drop, hyl, this]; omega
      · rw [hxs]
        have := hown.1
        simp only [List.size_toArray, List.length_append, List.length_take, List.length_drop, hyl, this]
        omega
      · have := hown.1
        rw [hxs, List.take_zero, List.nil_append, Nat.zero_add, Nat.mul_one, List.take_of_length_le]
        rw [List.length_append, List.length_drop, hyl, this]; omega
end Go.Mem
namespace Go.Proofs.YtbocpkjajocpiaaGreatDoor
set_option linter.unusedVariables false
open Go.RowKit Go.Mem Go.Dig

theorem subWrap {d t v b : Nat} (hd : d < 4294967296) (ht : t ≤ 4294967296) (hv : v + t = d + 4294967296 * b) (hb : b ≤ 1) (hvb : v < 4294967296) : IntKind.u32.wrap ((d : Int) - (t : Int) % 4294967296) = (v : Int) := by
  rw [IntKind.wrap_u32]
  omega

set_option maxHeartbeats 1000000 in
/-- The closure step of subMag. -/
theorem subStep_any (i n y br d : Nat) (l : List Nat) (hi : i < n) (hn : n ≤ 1000000) (hy : y < 4294967296) (hbr : br ≤ 1) (gb gl g : Nat) (hg1 : gb ≠ g) (hg2 : gl ≠ g) (hg3 : gb ≠ gl) (w : World) (hb : Blk w gb 22 #[.int .u64 br]) (hl : Blk w gl 33 #[.slice (some ⟨g, 0, none⟩) n n])
    (hown : w.ownsRow g 108 1 (.slice (some ⟨g, 0, none⟩) n n) n (nv .u32 l)) (hd : l[i]? = some d) (hdb : d < 4294967296) :
    Calls Tryz.prog 157 #[.int .i64 i, .int .u32 y, .pointer (some ⟨gb, 0, none⟩), .pointer (some ⟨gl, 0, none⟩)] w fun e w' => (∃ v, e = .returned v) ∧ ∃ v b : Nat, v < 4294967296 ∧ b ≤ 1 ∧ v + y + br = d + 4294967296 * b ∧
      Blk w' gb 22 #[.int .u64 b] ∧ w'.ownsRow g 108 1 (.slice (some ⟨g, 0, none⟩) n n) n (nv .u32 (l.set i v)) ∧ Chg (fun k => k = gb ∨ k = g) w w' := by
  have hc := hb.cell 0 (u := .int .u64 br) rfl
  have hf := hb.frozen 0
  have hcl := hl.cell 0 (u := .slice (some ⟨g, 0, none⟩) n n) rfl
  have hcd := own_cell hown (i := i) (u := .int .u32 (d : Nat)) (by rw [nv, List.getElem?_map, hd]; rfl)
  have hfd := own_frz hown (by omega) i
  obtain ⟨t, ht⟩ : ∃ t, y + br = t := ⟨_, rfl⟩
  have hti : (y : Int) + (br : Int) = (t : Int) := by omega
  have htb : t ≤ 4294967296 := by omega
  have HB := Lib.hid (And.intro hb hown)
  have hii : (i : Int) < (n : Int) := by omega
  clear hb hown hl hd
  have fin : ∀ v b : Nat, v < 4294967296 → Blk (((w.setCell ⟨gb, 0, none⟩ (.int .u64 0)).setCell ⟨gb, 0, none⟩ (.int .u64 (b : Int))).setCell ⟨g, i, none⟩ (.int .u32 (v : Int))) gb 22 #[.int .u64 (b : Int)] ∧
      (((w.setCell ⟨gb, 0, none⟩ (.int .u64 0)).setCell ⟨gb, 0, none⟩ (.int .u64 (b : Int))).setCell ⟨g, i, none⟩ (.int .u32 (v : Int))).ownsRow g 108 1 (.slice (some ⟨g, 0, none⟩) n n) n (nv .u32 (l.set i v)) ∧ Chg (fun k => k = gb ∨ k = g) w (((w.setCell ⟨gb, 0, none⟩ (.int .u64 0)).setCell ⟨gb, 0, none⟩ (.int .u64 (b : Int))).setCell ⟨g, i, none⟩ (.int .u32 (v : Int))) := fun v b hv => by
    obtain ⟨hb, hown⟩ := HB.out
    refine ⟨(((hb.set1 _).set1 _).far (p := ⟨g, i, none⟩) hg1 _), ?_, (((Chg.refl (fun k => k = gb ∨ k = g) w).setCell (p := ⟨gb, 0, none⟩) (fun _ => .inl rfl) _).setCell (p := ⟨gb, 0, none⟩) (fun _ => .inl rfl) _).setCell (p := ⟨g, i, none⟩) (fun _ => .inr rfl) _⟩
    have h1 : Chg (fun k => k = gb) w ((w.setCell ⟨gb, 0, none⟩ (.int .u64 0)).setCell ⟨gb, 0, none⟩ (.int .u64 (b : Int))) := ((Chg.refl (fun k => k = gb) w).setCell (p := ⟨gb, 0, none⟩) (fun _ => rfl) _).setCell (p := ⟨gb, 0, none⟩) (fun _ => rfl) _
    have h2 := own_set (own_chg hown h1 (fun k hk e => by simp [blk] at hk; omega)) i (.int .u32 (v : Int)) hi
    rwa [nv_set] at h2
  have HF := Lib.hid fin
  clear fin
  by_cases hlt : d < t
  · have hgt : (d : Int) < (t : Int) := by omega
    obtain ⟨v, hv⟩ : ∃ v, d + 4294967296 - t = v := ⟨_, rfl⟩
    have hvw : IntKind.u32.wrap ((d : Int) - (t : Int) % 4294967296) = (v : Int) := subWrap hdb htb (b := 1) (by omega) (by omega) (by omega)
    have HV : Hid (v < 4294967296 ∧ v + y + br = d + 4294967296 * 1) := ⟨by omega, by omega⟩
    clear hv ht
    go_enter Tryz.func157, Tryz.ntmps157
    go_wp2
    refine bodyPost_end (results_none rfl _ _ _) rfl ⟨⟨_, rfl⟩, v, 1, HV.out.1, by omega, HV.out.2, ?_⟩
    have := HF.out v 1 HV.out.1
    rwa [show ((1 : Nat) : Int) = 1 from rfl] at this
  · have hgt : decide ((d : Int) < (t : Int)) = false := by simp; omega
    have hgt' : decide (d < t) = false := by simp; omega
    obtain ⟨v, hv⟩ : ∃ v, d - t = v := ⟨_, rfl⟩
    have hvw : (d : Int) - (t : Int) = (v : Int) := by omega
    have htm : (t : Int) % 4294967296 = (t : Int) := by omega
    have HV : Hid (v < 4294967296 ∧ v + y + br = d + 4294967296 * 0) := ⟨by omega, by omega⟩
    have htd : t ≤ d := by omega
    clear hv ht
    go_enter Tryz.func157, Tryz.ntmps157
    go_wp2
    refine bodyPost_end (results_none rfl _ _ _) rfl ⟨⟨_, rfl⟩, v, 0, HV.out.1, by omega, HV.out.2, ?_⟩
    obtain ⟨hb, hown⟩ := HB.out
    have h1 : Chg (fun k => k = gb) w (w.setCell ⟨gb, 0, none⟩ (.int .u64 0)) := (Chg.refl (fun k => k = gb) w).setCell (p := ⟨gb, 0, none⟩) (fun _ => rfl) _
    have h2 := own_set (own_chg hown h1 (fun k hk e => by simp [blk] at hk; omega)) i (.int .u32 (v : Int)) hi
    rw [nv_set] at h2
    exact ⟨(hb.set1 (.int .u64 0)).far (p := ⟨g, i, none⟩) hg1 _, h2, (h1.mono (fun _ _ h => .inl h)).setCell (p := ⟨g, i, none⟩) (fun _ => .inr rfl) _⟩

/-- What the loops of subMag hold. -/
def SbI (W : World) (gs gl gb : Nat) (la lb : List Nat) (n k br : Nat) (wr : World) : Prop :=
  ∃ o, SubI 4294967296 la lb k o br ∧ wr.ownsRow gs 108 1 (.slice (some ⟨gs, 0, none⟩) n n) n (nv .u32 (o ++ la.drop k)) ∧ Blk wr gb 22 #[.int .u64 br] ∧ Blk wr gl 33 #[.slice (some ⟨gs, 0, none⟩) n n] ∧ Chg (fun j => j = gs ∨ j = gb) W wr
theorem set_drop {o la : List Nat} {k d : Nat} (hk : o.length = k) (hd : la[k]? = some d) (v : Nat) : (o ++ la.drop k).set k v = (o ++ [v]) ++ la.drop (k + 1) := by
  subst hk
  obtain ⟨h, rfl⟩ := List.getElem?_eq_some_iff.1 hd
  rw [List.set_append_right _ _ (Nat.le_refl _), Nat.sub_self, List.drop_eq_getElem_cons h, List.set_cons_zero, List.append_assoc]
  rfl
theorem at_drop {o la : List Nat} {k d : Nat} (hk : o.length = k) (hd : la[k]? = some d) : (o ++ la.drop k)[k]? = some d := by
  subst hk
  rw [List.getElem?_append_right (Nat.le_refl _), Nat.sub_self, List.getElem?_drop, Nat.add_zero, hd]
/-- One step. -/
theorem sbi_step {W : World} {gs gl gb : Nat} {la lb : List Nat} {n k br y d : Nat} {wo : World} (hla : la.length = n) (hk : k < n) (hn : n ≤ 1000000) (hda : Digs 4294967296 la) (hdb : Digs 4294967296 lb) (hd : la[k]? = some d) (hy : dg lb k = y) (hg : gs < gl ∧ gl < gb) (h : SbI W gs gl gb la lb n k br wo) :
    Calls Tryz.prog 157 #[.int .i64 k, .int .u32 y, .pointer (some ⟨gb, 0, none⟩), .pointer (some ⟨gl, 0, none⟩)] wo fun e w' => (∃ v, e = .returned v) ∧ ∃ b : Nat, b ≤ 1 ∧ Hid (SbI W gs gl gb la lb n (k + 1) b w') := by
  obtain ⟨o, hS, hown, hbb, hbl, hch⟩ := h
  have hyb := dg_lt hdb (by omega) k
  rw [hy] at hyb
  refine (subStep_any k n y br d _ hk hn hyb hS.borrow gb gl gs (by omega) (by omega) (by omega) wo hbb hbl hown (at_drop hS.len hd) (hda.at_ hd)).mono ?_
  rintro e w' ⟨hv, v, b, h1, h2, h3, h4, h5, h6⟩
  refine ⟨hv, b, h2, o ++ [v], hS.step (by omega) hda hdb h1 h2 (by rw [hy, dg_some hd]; exact h3), ?_, h4, hbl.chg h6 (by omega), ?_⟩
  · rw [set_drop hS.len hd] at h5; exact h5
  · exact hch.trans h6 (fun _ _ h => by omega)

set_option maxRecDepth 100000 in
set_option maxHeartbeats 4000000 in
theorem subMag_any (A : Option Addr) (n c : Nat) (A' : Option Addr) (n' c' : Nat) (x y : Nat) (w : World) (hx : WM w A n c x) (hy : WM w A' n' c' y) (hle : y ≤ x) (hn : n ≤ 1000000) :
    Calls Tryz.prog 126 #[.slice A n c, .slice A' n' c'] w fun e w' => ∃ R m d, e = .returned (.slice R m d) ∧ Hid (WM w' R m d (x - y) ∧ New w w') := by
  obtain ⟨la, ha, hc1, hc2, hNa⟩ := hx
  obtain ⟨lb, hb, hd1, hd2, hNb⟩ := hy
  have hla : la.length = n := by have := ha.len; rwa [nv_length] at this
  have hlb : lb.length = n' := by have := hb.len; rwa [nv_length] at this
  have hnn : n' ≤ n := by
    rcases Nat.lt_or_ge n n' with h | h
    · have := hNa.len_lt (by omega) hNb (by omega); omega
    · exact h
  have H0 := Lib.hid (And.intro ha (And.intro hb (And.intro hNa (And.intro hNb (And.intro hla (And.intro hlb hle))))))
  clear ha hb hNa hNb hla hlb hle
  go_enter Tryz.func126, Tryz.ntmps126
  go_wp2_with (first
    | (at_make; refine wpList_mk elemU32 rfl rfl _ _ rfl (n := n) rfl rfl rfl rfl (by omega) (by simp only [maxLen]; omega) ?_; intro w1 hown hg hz; have HMK := Lib.hid (And.intro hown (And.intro hg hz)); clear hown hg hz)
    | ((with_reducible refine wpList_cp elemU32 rfl (.tmp 14) (.tmp 15) rfl rfl (HMK.out.1.alloc _) rfl (Nat.le_refl _) (H0.out.1.new (HMK.out.2.1.alloc _)) (nv_one _) ?_); intro w2 hown2 hch2; have HCP := Lib.hid (And.intro hown2 hch2); clear hown2 hch2))
  obtain ⟨ho, hnw, hz⟩ := HMK.out
  obtain ⟨hown2, hch2⟩ := HCP.out
  have hb0 := Blk.new w1 33 #[.slice (some ⟨w.heap.size, 0, none⟩) n n]
  have hbl2 := hb0.chg hch2 (by omega)
  have hnw2 : New w w2 := Chg.owned (hnw.alloc _) hch2 (fun k e => by omega)
  rw [List.drop_of_length_le (by simp), List.append_nil] at hown2
  refine Code.new1 ?_
  intro W hbb hnW hzW
  obtain ⟨gs, hgs⟩ : ∃ g, w.heap.size = g := ⟨_, rfl⟩
  obtain ⟨gl, hgl⟩ : ∃ g, w1.heap.size = g := ⟨_, rfl⟩
  obtain ⟨gb, hgb⟩ : ∃ g, w2.heap.size = g := ⟨_, rfl⟩
  have hlt : gs < gl ∧ gl < gb := by have h1 := hbl2.lt; omega
  rw [hgs] at hown2 hbl2
  rw [hgl] at hbl2
  rw [hgb] at hbb
  have HW : Hid (New w W ∧ SbI W gs gl gb la lb n 0 0 W) := ⟨hnw2.new hnW, [], SubI.start _ _ _, own_chg hown2 hnW (fun _ _ h => h), hbb, hbl2.chg hnW (fun h => h), Chg.refl _ _⟩
  have HG := Lib.hid (And.intro hgs hlt)
  simp only [hgs, hgl, hgb]
  clear ho hnw hz hown2 hch2 hb0 hbl2 hnw2 hbb hnW hzW hgs hgl hgb hlt HMK HCP
  go_loopw [20] (fun v wr => ∃ k br : Nat, v = .int .i64 k ∧ k ≤ n' ∧ br ≤ 1 ∧ Hid (SbI W gs gl gb la lb n k br wr)) (fun v _ => n' - (intOf v).toNat)
  case atStart => exact ⟨0, 0, rfl, by omega, by omega, HW.out.2⟩
  case round =>
    obtain ⟨i, br, rfl, hi, hbr, HO⟩ := hrel
    by_cases hlt : i < n'
    · obtain ⟨wo, rfl⟩ : ∃ wo : World, wo = wr := ⟨_, rfl⟩
      obtain ⟨ha, hb, hNa, hNb, hla, hlb, hle⟩ := H0.out
      have hchg : Chg (fun j => j = gs ∨ j = gb) w wo := (HW.out.1.mono (fun _ _ h => h.elim)).trans HO.out.choose_spec.2.2.2.2 (fun _ _ h => h)
      obtain ⟨bd, v, rfl, hv, hcv⟩ := (hb.chg hchg (fun k _ h e => by have := HG.out; omega)).at_ hlt
      obtain ⟨r, hr, rfl⟩ := nv_at hv
      obtain ⟨d, hd⟩ : ∃ d, la[i]? = some d := ⟨_, List.getElem?_eq_getElem (by omega)⟩
      have hst := sbi_step hla (show i < n by omega) hn hNa.digs hNb.digs hd (dg_some hr) HG.out.2 HO.out
      have HS := Lib.hid hst
      clear ha hb hNa hNb hla hlb hle hchg hv hr hd hst
      go_wp2_with fail
      refine HS.out.mono ?_
      rintro e w5 ⟨⟨ve, rfl⟩, b, hb1, H5⟩
      go_wp2
      go_roundw
      case rel => exact ⟨i + 1, b, by go_num, by omega, hb1, H5.out⟩
      case measure => simp [intOf]; omega
    · obtain rfl : n' = i := by omega
      go_wp2_with fail
      go_loopw [10] (fun v wr => ∃ k br : Nat, v = .int .i64 k ∧ n' ≤ k ∧ k ≤ n ∧ br ≤ 1 ∧ Hid (SbI W gs gl gb la lb n k br wr)) (fun v _ => n - (intOf v).toNat)
      case atStart => exact ⟨n', br, rfl, Nat.le_refl _, hnn, hbr, HO.out⟩
      case round =>
        clear HO
        obtain ⟨wo, rfl⟩ : ∃ wo : World, wo = wr := ⟨_, rfl⟩
        obtain ⟨i, br, rfl, hi1, hi2, hbr, HO⟩ := hrel
        obtain ⟨o, hS, hown, hbb, hbl, hch⟩ := HO.out
        have kb := hbb.cell 0 (u := .int .u64 br) rfl
        have kl := hbl.cell 0 (u := .slice (some ⟨gs, 0, none⟩) n n) rfl
        have HX := Lib.hid (And.intro hS (And.intro hown hch))
        clear hS hown hbb hbl hch
        by_cases hgo : i < n ∧ br = 1
        · obtain ⟨hlt, rfl⟩ := hgo
          obtain ⟨ha, hb, hNa, hNb, hla, hlb, hle⟩ := H0.out
          obtain ⟨d, hd⟩ : ∃ d, la[i]? = some d := ⟨_, List.getElem?_eq_getElem (by omega)⟩
          have hst := sbi_step hla hlt hn hNa.digs hNb.digs hd (dg_none (l := lb) (by omega)) HG.out.2 HO.out
          rw [show ((0 : Nat) : Int) = 0 from rfl] at hst
          have HS := Lib.hid hst
          have hlti : (i : Int) < (n : Int) := by omega
          clear ha hb hNa hNb hla hlb hle hd hst HX
          go_wp2_with fail
          refine HS.out.mono ?_
          rintro e w5 ⟨⟨ve, rfl⟩, b, hb1, H5⟩
          go_wp2
          go_roundw
          case rel => exact ⟨i + 1, b, by go_num, by omega, by omega, hb1, H5.out⟩
          case measure => simp [intOf]; omega
        · have hfin : val 4294967296 (o ++ la.drop i) = x - y ∧ Digs 4294967296 (o ++ la.drop i) ∧ Rd wo (some ⟨gs, 0, none⟩) n (nv .u32 (o ++ la.drop i)) ∧ New w wo := by
            obtain ⟨ha, hb, hNa, hNb, hla, hlb, hle⟩ := H0.out
            obtain ⟨hS, hown, hch⟩ := HX.out
            refine ⟨?_, hS.digs.app (hNa.digs.drop i), Rd.of_own hown, Chg.owned HW.out.1 hch (fun k e => by have := HG.out; omega)⟩
            have hbz : br = 0 := by
              rcases Nat.lt_or_ge i n with h | h
              · omega
              · obtain rfl : i = n := by omega
                have e := hS.eq
                rw [List.take_of_length_le (by omega), List.take_of_length_le (by omega), hNa.val, hNb.val] at e
                have hv := val_lt hS.digs
                rw [hS.len] at hv
                have hbr0 : br = 0 ∨ br = 1 := by omega
                rcases hbr0 with h0 | h0
                · exact h0
                · rw [h0, Nat.mul_one] at e; omega
            have e := hS.eq
            rw [hbz, Nat.mul_zero, Nat.add_zero, List.take_of_length_le (l := lb) (by omega), hNb.val] at e
            have hsp := val_split 4294967296 la i (by omega)
            rw [hNa.val] at hsp
            rw [val_append, hS.len]
            omega
          have HF := Lib.hid hfin
          clear hfin HX
          have hguard : (i < n ∧ br = 0) ∨ ¬ i < n := by omega
          clear hgo
          rcases hguard with ⟨hlt, rfl⟩ | hlt
          · have hlti : (i : Int) < (n : Int) := by omega
            go_wp2_with fail
            obtain ⟨hval, hdg, hrd, hnw⟩ := HF.out
            refine (trim_wm _ n n (o ++ la.drop i) wo hrd hdg (Nat.le_refl _) (by omega)).mono ?_
            rintro e w2 ⟨T, rfl, HT, rfl⟩
            clear hval hdg hrd hnw
            go_wp2
            go_ret
            obtain ⟨hval, hdg, hrd, hnw⟩ := HF.out
            have hT := HT.out.1
            rw [hval] at hT
            exact ⟨_, _, _, rfl, hT, hnw⟩
          · have hlti : decide ((i : Int) < (n : Int)) = false := by simp; omega
            have hlti' : decide (i < n) = false := by simp; omega
            go_wp2_with fail
            obtain ⟨hval, hdg, hrd, hnw⟩ := HF.out
            refine (trim_wm _ n n (o ++ la.drop i) wo hrd hdg (Nat.le_refl _) (by omega)).mono ?_
            rintro e w2 ⟨T, rfl, HT, rfl⟩
            clear hval hdg hrd hnw
            go_wp2
            go_ret
            obtain ⟨hval, hdg, hrd, hnw⟩ := HF.out
            have hT := HT.out.1
            rw [hval] at hT
            exact ⟨_, _, _, rfl, hT, hnw⟩
end Go.Proofs.YtbocpkjajocpiaaGreatDoor

namespace Go.Proofs.YtbocpkjajocpiaaGreatDoor
set_option linter.unusedVariables false
open Go.RowKit Go.Mem Go.Dig

theorem made_h (s : Bool) (R : Option Addr) (k d m : Nat) (w : World) (h : Hid (WM w R k d m)) :
    Calls Tryz.prog 107 #[.bool s, .slice R k d] w fun e w' => ∃ s' A' n' c', e = .returned (.agg #[.bool s', .slice A' n' c']) ∧ Hid (WI w' (.agg #[.bool s', .slice A' n' c']) (sg s m)) ∧ Hid (New w w') := by
  obtain ⟨l, hr, hnc, hc, hN⟩ := h.out
  refine (made_wi s R k d l w hr hN.digs hnc hc).mono ?_
  rintro e w' ⟨v, rfl, ⟨s', A', n', c', rfl, h1, h2⟩, hn⟩
  rw [hN.val] at h1 h2
  exact ⟨s', A', n', c', rfl, ⟨s', A', n', c', rfl, h1, h2⟩, hn⟩

set_option maxRecDepth 100000 in
set_option maxHeartbeats 2000000 in
theorem total_same (s : Bool) (A : Option Addr) (n c : Nat) (A' : Option Addr) (n' c' : Nat) (x y : Nat) (w : World) (hx : WM w A n c x) (hy : WM w A' n' c' y) (hn : n ≤ 1000000) (hn' : n' ≤ 1000000) :
    Calls Tryz.prog 112 #[.agg #[.bool s, .slice A n c], .agg #[.bool s, .slice A' n' c']] w fun e w' => ∃ sr Ar nr cr, e = .returned (.agg #[.bool sr, .slice Ar nr cr]) ∧ Hid (WI w' (.agg #[.bool sr, .slice Ar nr cr]) (sg s (x + y)) ∧ New w w') := by
  have H0 := Lib.hid (And.intro hx hy)
  clear hx hy
  go_enter Tryz.func112, Tryz.ntmps112
  go_wp2_with fail
  refine Code.new3 ?_
  intro W hb1 hb2 hb3 hnW hzW
  have hc10 := hb1.cell 0 (u := .bool s) rfl
  have hc11 := hb1.cell 1 (u := .slice A n c) rfl
  have hc21 := hb2.cell 1 (u := .slice A' n' c') rfl
  have hc30 := hb3.cell 0 (u := .bool false) rfl
  have hc31 := hb3.cell 1 (u := .slice none 0 0) rfl
  have hf30 := hb3.frozen 0
  have hf31 := hb3.frozen 1
  have hcal : ∀ W', New W W' → Calls Tryz.prog 76 #[.slice A n c, .slice A' n' c'] W' fun e w' => ∃ R k d, e = .returned (.slice R k d) ∧ Hid (WM w' R k d (x + y)) ∧ Hid (New W w') := fun W' h =>
    (addMag_any A n c A' n' c' x y W' (H0.out.1.new (hnW.new h)) (H0.out.2.new (hnW.new h)) hn hn').mono fun e w' ⟨R, k, d, h1, h2⟩ => ⟨R, k, d, h1, h2.out.1, h.new h2.out.2⟩
  have HP := Lib.hid hcal
  have HB := Lib.hid (And.intro hb1 (And.intro hb2 (And.intro hb3 hnW)))
  clear hcal hb1 hb2 hb3 hnW
  go_region_held3 (fun w' => w'.cell? ⟨w.heap.size, 0, none⟩ = some (.bool s) ∧ w'.cell? ⟨w.heap.size, 1, none⟩ = some (.slice A n c) ∧ w'.cell? ⟨w.heap.size + 1, 1, none⟩ = some (.slice A' n' c')) (first | exact ⟨by assumption, by assumption, by assumption⟩ | exact ⟨far2 he10 (by dsimp only; omega) _ _, far2 he11 (by dsimp only; omega) _ _, far2 he21 (by dsimp only; omega) _ _⟩)
    (first
      | (go_at_call 76; refine (HP.out _ ?_).mono ?_; exact (Chg.refl _ _).drew; rintro e w5 ⟨R, k, d, rfl, HO5, HN5⟩; have hd10 := HN5.out.cell hc10 (fun h => h); have hd11 := HN5.out.cell hc11 (fun h => h); have hd21 := HN5.out.cell hc21 (fun h => h); have hd30 := HN5.out.cell hc30 (fun h => h); have hd31 := HN5.out.cell hc31 (fun h => h); have hg30 := (HB.out.2.2.1.chg HN5.out (fun h => h)).frozen 0; have hg31 := (HB.out.2.2.1.chg HN5.out (fun h => h)).frozen 1)
      | (go_at_call 107; refine (made_h s R k d _ _ HO5).mono ?_; rintro e w6 ⟨s6, A6, n6, c6, rfl, H6, HN6⟩; have he10 := HN6.out.cell hd10 (fun h => h); have he11 := HN6.out.cell hd11 (fun h => h); have he21 := HN6.out.cell hd21 (fun h => h); have he30 := HN6.out.cell hd30 (fun h => h); have he31 := HN6.out.cell hd31 (fun h => h); have hh30 := ((HB.out.2.2.1.chg HN5.out (fun h => h)).chg HN6.out (fun h => h)).frozen 0; have hh31 := ((HB.out.2.2.1.chg HN5.out (fun h => h)).chg HN6.out (fun h => h)).frozen 1))
  all_goals
    clear hc10 hc11 hc21 hc30 hc31 hf30 hf31 hd10 hd11 hd21 hd30 hd31 hg30 hg31
    go_wp2
    have hb6 := (HB.out.2.2.1.chg HN5.out (fun h => h)).chg HN6.out (fun h => h)
    refine bodyPost_ret (res_c rfl _ rfl (aggInt.load (hb6.set2 _ _))) rfl ⟨s6, A6, n6, c6, rfl, H6.out.store hb6 (noInt_two _ _ _ _) (Chg.at2 _ _ _ _), ?_⟩
    exact Chg.owned (HB.out.2.2.2.new (HN5.out.new HN6.out)) (Chg.at2 _ _ _ _) (fun k e => by omega)

set_option maxRecDepth 100000 in
set_option maxHeartbeats 2000000 in
theorem total_ge (s s' : Bool) (hss : (s == s') = false) (A : Option Addr) (n c : Nat) (A' : Option Addr) (n' c' : Nat) (x y : Nat) (w : World) (hx : WM w A n c x) (hy : WM w A' n' c' y) (hn : n ≤ 1000000) (hn' : n' ≤ 1000000) (hlt : y ≤ x) :
    Calls Tryz.prog 112 #[.agg #[.bool s, .slice A n c], .agg #[.bool s', .slice A' n' c']] w fun e w' => ∃ sr Ar nr cr, e = .returned (.agg #[.bool sr, .slice Ar nr cr]) ∧ Hid (WI w' (.agg #[.bool sr, .slice Ar nr cr]) (sg s ((x - y : Nat))) ∧ New w w') := by
  have H0 := Lib.hid (And.intro hx hy)
  clear hx hy
  go_enter Tryz.func112, Tryz.ntmps112
  go_wp2_with fail
  refine Calls.new3 ?_
  intro W0 hb1 hb2 hb3 hnW hzW
  refine (cmpMag_any A n c A' n' c' x y W0 (H0.out.1.new hnW) (H0.out.2.new hnW)).mono ?_
  rintro e W ⟨rfl, q, hq⟩
  have hcv : decide ((0 : Int) ≤ cmpI (x : Int) (y : Int)) = true := by
    unfold cmpI
    rw [if_neg (by omega)]
    split <;> decide
  generalize cmpI (x : Int) (y : Int) = cv at *
  have hnq : New W0 W := by rw [hq]; exact (Chg.refl _ _).drewN q
  replace hb1 := hb1.chg hnq (fun h => h)
  replace hb2 := hb2.chg hnq (fun h => h)
  replace hb3 := hb3.chg hnq (fun h => h)
  replace hnW := hnW.new hnq
  have hc10 := hb1.cell 0 (u := .bool s) rfl
  have hc11 := hb1.cell 1 (u := .slice A n c) rfl
  have hc21 := hb2.cell 1 (u := .slice A' n' c') rfl
  have hc30 := hb3.cell 0 (u := .bool false) rfl
  have hc31 := hb3.cell 1 (u := .slice none 0 0) rfl
  have hf30 := hb3.frozen 0
  have hf31 := hb3.frozen 1
  have hcal : ∀ W', New W W' → Calls Tryz.prog 126 #[.slice A n c, .slice A' n' c'] W' fun e w' => ∃ R k d, e = .returned (.slice R k d) ∧ Hid (WM w' R k d (x - y)) ∧ Hid (New W w') := fun W' h =>
    (subMag_any A n c A' n' c' x y W' (H0.out.1.new (hnW.new h)) (H0.out.2.new (hnW.new h)) hlt hn).mono fun e w' ⟨R, k, d, h1, h2⟩ => ⟨R, k, d, h1, h2.out.1, h.new h2.out.2⟩
  have HP := Lib.hid hcal
  have HB := Lib.hid (And.intro hb1 (And.intro hb2 (And.intro hb3 hnW)))
  clear hcal hb1 hb2 hb3 hnW hq hnq hzW
  go_wp2_with fail
  go_region_held3 (fun w' => w'.cell? ⟨w.heap.size, 0, none⟩ = some (.bool s) ∧ w'.cell? ⟨w.heap.size, 1, none⟩ = some (.slice A n c) ∧ w'.cell? ⟨w.heap.size + 1, 1, none⟩ = some (.slice A' n' c')) (first | exact ⟨by assumption, by assumption, by assumption⟩ | exact ⟨far2 he10 (by dsimp only; omega) _ _, far2 he11 (by dsimp only; omega) _ _, far2 he21 (by dsimp only; omega) _ _⟩)
    (first
      | (go_at_call 126; refine (HP.out _ ?_).mono ?_; exact (Chg.refl _ _).drew; rintro e w5 ⟨R, k, d, rfl, HO5, HN5⟩; have hd10 := HN5.out.cell hc10 (fun h => h); have hd11 := HN5.out.cell hc11 (fun h => h); have hd21 := HN5.out.cell hc21 (fun h => h); have hd30 := HN5.out.cell hc30 (fun h => h); have hd31 := HN5.out.cell hc31 (fun h => h); have hg30 := (HB.out.2.2.1.chg HN5.out (fun h => h)).frozen 0; have hg31 := (HB.out.2.2.1.chg HN5.out (fun h => h)).frozen 1)
      | (go_at_call 107; refine (made_h s R k d _ _ HO5).mono ?_; rintro e w6 ⟨s6, A6, n6, c6, rfl, H6, HN6⟩; have he10 := HN6.out.cell hd10 (fun h => h); have he11 := HN6.out.cell hd11 (fun h => h); have he21 := HN6.out.cell hd21 (fun h => h); have he30 := HN6.out.cell hd30 (fun h => h); have he31 := HN6.out.cell hd31 (fun h => h); have hh30 := ((HB.out.2.2.1.chg HN5.out (fun h => h)).chg HN6.out (fun h => h)).frozen 0; have hh31 := ((HB.out.2.2.1.chg HN5.out (fun h => h)).chg HN6.out (fun h => h)).frozen 1))
  all_goals
    clear hc10 hc11 hc21 hc30 hc31 hf30 hf31 hd10 hd11 hd21 hd30 hd31 hg30 hg31
    go_wp2
    have hb6 := (HB.out.2.2.1.chg HN5.out (fun h => h)).chg HN6.out (fun h => h)
    refine bodyPost_ret (res_c rfl _ rfl (aggInt.load (hb6.set2 _ _))) rfl ⟨s6, A6, n6, c6, rfl, H6.out.store hb6 (noInt_two _ _ _ _) (Chg.at2 _ _ _ _), ?_⟩
    exact Chg.owned (HB.out.2.2.2.new (HN5.out.new HN6.out)) (Chg.at2 _ _ _ _) (fun k e => by omega)

set_option maxRecDepth 100000 in
set_option maxHeartbeats 2000000 in
theorem total_lt (s s' : Bool) (hss : (s == s') = false) (A : Option Addr) (n c : Nat) (A' : Option Addr) (n' c' : Nat) (x y : Nat) (w : World) (hx : WM w A n c x) (hy : WM w A' n' c' y) (hn : n ≤ 1000000) (hn' : n' ≤ 1000000) (hlt : x < y) :
    Calls Tryz.prog 112 #[.agg #[.bool s, .slice A n c], .agg #[.bool s', .slice A' n' c']] w fun e w' => ∃ sr Ar nr cr, e = .returned (.agg #[.bool sr, .slice Ar nr cr]) ∧ Hid (WI w' (.agg #[.bool sr, .slice Ar nr cr]) (sg s' ((y - x : Nat))) ∧ New w w') := by
  have H0 := Lib.hid (And.intro hx hy)
  clear hx hy
  go_enter Tryz.func112, Tryz.ntmps112
  go_wp2_with fail
  refine Calls.new3 ?_
  intro W0 hb1 hb2 hb3 hnW hzW
  refine (cmpMag_any A n c A' n' c' x y W0 (H0.out.1.new hnW) (H0.out.2.new hnW)).mono ?_
  rintro e W ⟨rfl, q, hq⟩
  rw [cmpI_lt (show (x : Int) < (y : Int) by omega)]
  have hneg : decide ((0 : Int) ≤ (-1 : Int)) = false := by decide
  have hnq : New W0 W := by rw [hq]; exact (Chg.refl _ _).drewN q
  replace hb1 := hb1.chg hnq (fun h => h)
  replace hb2 := hb2.chg hnq (fun h => h)
  replace hb3 := hb3.chg hnq (fun h => h)
  replace hnW := hnW.new hnq
  have hc20 := hb2.cell 0 (u := .bool s') rfl
  have hc21 := hb2.cell 1 (u := .slice A' n' c') rfl
  have hc11 := hb1.cell 1 (u := .slice A n c) rfl
  have hc30 := hb3.cell 0 (u := .bool false) rfl
  have hc31 := hb3.cell 1 (u := .slice none 0 0) rfl
  have hf30 := hb3.frozen 0
  have hf31 := hb3.frozen 1
  have hcal : ∀ W', New W W' → Calls Tryz.prog 126 #[.slice A' n' c', .slice A n c] W' fun e w' => ∃ R k d, e = .returned (.slice R k d) ∧ Hid (WM w' R k d (y - x)) ∧ Hid (New W w') := fun W' h =>
    (subMag_any A' n' c' A n c y x W' (H0.out.2.new (hnW.new h)) (H0.out.1.new (hnW.new h)) (by omega) hn').mono fun e w' ⟨R, k, d, h1, h2⟩ => ⟨R, k, d, h1, h2.out.1, h.new h2.out.2⟩
  have HP := Lib.hid hcal
  have HB := Lib.hid (And.intro hb1 (And.intro hb2 (And.intro hb3 hnW)))
  clear hcal hb1 hb2 hb3 hnW hq hnq hzW
  go_wp2_with fail
  go_region_held3 (fun w' => w'.cell? ⟨w.heap.size + 1, 0, none⟩ = some (.bool s') ∧ w'.cell? ⟨w.heap.size + 1, 1, none⟩ = some (.slice A' n' c') ∧ w'.cell? ⟨w.heap.size, 1, none⟩ = some (.slice A n c)) (first | exact ⟨by assumption, by assumption, by assumption⟩ | exact ⟨far2 he20 (by dsimp only; omega) _ _, far2 he21 (by dsimp only; omega) _ _, far2 he11 (by dsimp only; omega) _ _⟩)
    (first
      | (go_at_call 126; refine (HP.out _ ?_).mono ?_; exact (Chg.refl _ _).drew; rintro e w5 ⟨R, k, d, rfl, HO5, HN5⟩; have hd20 := HN5.out.cell hc20 (fun h => h); have hd21 := HN5.out.cell hc21 (fun h => h); have hd11 := HN5.out.cell hc11 (fun h => h); have hd30 := HN5.out.cell hc30 (fun h => h); have hd31 := HN5.out.cell hc31 (fun h => h); have hg30 := (HB.out.2.2.1.chg HN5.out (fun h => h)).frozen 0; have hg31 := (HB.out.2.2.1.chg HN5.out (fun h => h)).frozen 1)
      | (go_at_call 107; refine (made_h s' R k d _ _ HO5).mono ?_; rintro e w6 ⟨s6, A6, n6, c6, rfl, H6, HN6⟩; have he20 := HN6.out.cell hd20 (fun h => h); have he21 := HN6.out.cell hd21 (fun h => h); have he11 := HN6.out.cell hd11 (fun h => h); have he30 := HN6.out.cell hd30 (fun h => h); have he31 := HN6.out.cell hd31 (fun h => h); have hh30 := ((HB.out.2.2.1.chg HN5.out (fun h => h)).chg HN6.out (fun h => h)).frozen 0; have hh31 := ((HB.out.2.2.1.chg HN5.out (fun h => h)).chg HN6.out (fun h => h)).frozen 1))
  all_goals
    clear hc20 hc21 hc11 hc30 hc31 hf30 hf31 hd20 hd21 hd11 hd30 hd31 hg30 hg31
    go_wp2
    have hb6 := (HB.out.2.2.1.chg HN5.out (fun h => h)).chg HN6.out (fun h => h)
    refine bodyPost_ret (res_c rfl _ rfl (aggInt.load (hb6.set2 _ _))) rfl ⟨s6, A6, n6, c6, rfl, H6.out.store hb6 (noInt_two _ _ _ _) (Chg.at2 _ _ _ _), ?_⟩
    exact Chg.owned (HB.out.2.2.2.new (HN5.out.new HN6.out)) (Chg.at2 _ _ _ _) (fun k e => by omega)

theorem total_any (v v' : Value) (x y : Int) (w : World) (hx : WI w v x) (hy : WI w v' y) (bx : x.natAbs < 2 ^ 1000000) (bY : y.natAbs < 2 ^ 1000000) :
    Calls Tryz.prog 112 #[v, v'] w fun e w' => ∃ s A n c, e = .returned (.agg #[.bool s, .slice A n c]) ∧ Hid (WI w' (.agg #[.bool s, .slice A n c]) (x + y) ∧ New w w') := by
  obtain ⟨s, A, n, c, rfl, hs, hm⟩ := hx
  obtain ⟨s', A', n', c', rfl, hs', hm'⟩ := hy
  have hn := bz_wlen hm bx
  have hn' := bz_wlen hm' bY
  clear bx bY
  by_cases hss : s = s'
  · subst hss
    have e1 : sg s (x.natAbs + y.natAbs) = x + y := by
      unfold sg
      cases s
      · have : ¬ x < 0 := by simpa using hs.symm
        have : ¬ y < 0 := by simpa using hs'.symm
        simp; omega
      · have : x < 0 := by simpa using hs.symm
        have : y < 0 := by simpa using hs'.symm
        simp; omega
    have := total_same s A n c A' n' c' _ _ w hm hm' hn hn'
    rwa [e1] at this
  · have hb : (s == s') = false := by simp [hss]
    have hsg : (s = true ∧ s' = false ∧ x < 0 ∧ ¬ y < 0) ∨ (s = false ∧ s' = true ∧ ¬ x < 0 ∧ y < 0) := by
      cases s <;> cases s'
      · exact absurd rfl hss
      · exact .inr ⟨rfl, rfl, by simpa using hs.symm, by simpa using hs'.symm⟩
      · exact .inl ⟨rfl, rfl, by simpa using hs.symm, by simpa using hs'.symm⟩
      · exact absurd rfl hss
    rcases Nat.lt_or_ge x.natAbs y.natAbs with hlt | hlt
    · have e1 : sg s' (y.natAbs - x.natAbs : Nat) = x + y := by
        unfold sg
        rcases hsg with ⟨_, rfl, h3, h4⟩ | ⟨_, rfl, h3, h4⟩ <;> simp <;> omega
      have := total_lt s s' hb A n c A' n' c' _ _ w hm hm' hn hn' hlt
      rwa [e1] at this
    · have e1 : sg s (x.natAbs - y.natAbs : Nat) = x + y := by
        unfold sg
        rcases hsg with ⟨rfl, _, h3, h4⟩ | ⟨rfl, _, h3, h4⟩ <;> simp <;> omega
      have := total_ge s s' hb A n c A' n' c' _ _ w hm hm' hn hn' hlt
      rwa [e1] at this

set_option maxRecDepth 100000 in
set_option maxHeartbeats 2000000 in
theorem wadd_any (v v' : Value) (x y : Int) (w : World) (hx : WI w v x) (hy : WI w v' y) (bx : x.natAbs < 2 ^ 1000000) (bY : y.natAbs < 2 ^ 1000000) :
    Calls Tryz.prog 62 #[v, v'] w fun e w' => ∃ s A n c, e = .returned (.tuple #[.agg #[.bool s, .slice A n c], .int .i64 (rgE (x + y))]) ∧ Hid (WI w' (.agg #[.bool s, .slice A n c]) (rg (x + y)) ∧ New w w') := by
  obtain ⟨s, A, n, c, rfl, hs, hm⟩ := hx
  obtain ⟨s', A', n', c', rfl, hs', hm'⟩ := hy
  have H0 := Lib.hid (And.intro hs (And.intro hm (And.intro hs' (And.intro hm' (And.intro bx bY)))))
  clear hs hs' hm hm' bx bY
  obtain ⟨z, hz⟩ : ∃ z, x + y = z := ⟨_, rfl⟩
  rw [hz]
  have HZ := Lib.hid hz
  clear hz
  go_enter Tryz.func62, Tryz.ntmps62
  go_wp2_with fail
  refine Calls.new3 ?_
  intro W hb1 hb2 hb3 hnW hzW
  obtain ⟨hs, hm, hs', hm', bx, bY⟩ := H0.out
  refine (total_any _ _ x y W ⟨s, A, n, c, rfl, hs, hm.new hnW⟩ ⟨s', A', n', c', rfl, hs', hm'.new hnW⟩ bx bY).mono ?_
  rw [HZ.out]
  rintro e w2 ⟨s2, A2, n2, c2, rfl, H2⟩
  have hb4 := hb3.chg H2.out.2 (fun h => h)
  have HB := Lib.hid (And.intro hb4 (hnW.new H2.out.2))
  have hl4 : w.heap.size + 1 + 1 < w2.heap.size := hb4.lt
  have hl5 : w.heap.size + 1 < w2.heap.size := by omega
  clear hb1 hb2 hb3 hnW hzW hs hm hs' hm' bx bY hb4 H0
  go_wp2_with fail
  refine Calls.new1 ?_
  intro W3 hb5 hn3 hz3
  obtain ⟨s3, A3, n3, c3, he, hs3, hm3⟩ := H2.out.1
  injection he with he
  have he' : s2 = s3 ∧ A2 = A3 ∧ n2 = n3 ∧ c2 = c3 := by simpa using he
  obtain ⟨rfl, rfl, rfl, rfl⟩ := he'
  have hran := ranged_wm s2 A2 n2 c2 _ W3 (hm3.new hn3)
  rw [hs3, sg_of] at hran
  rw [← hs3] at hran
  refine hran.mono ?_
  rintro e w6 ⟨s6, A6, n6, c6, rfl, H6⟩
  have hb6 := (HB.out.1.chg hn3 (fun h => h)).chg H6.out.2 (fun h => h)
  have k0 := hb6.cell 0 (u := .bool false) rfl
  have k1 := hb6.cell 1 (u := .slice none 0 0) rfl
  have f0 := hb6.frozen 0
  have f1 := hb6.frozen 1
  have HF := Lib.hid (And.intro hb6 ((HB.out.2.new hn3).new H6.out.2))
  clear hb5 hn3 hz3 hs3 hm3 hran hb6 he
  go_wp2
  obtain ⟨hb6, hn6⟩ := HF.out
  refine bodyPost_ret (res_ct rfl _ rfl (aggInt.load (hb6.set2 _ _)) rfl) rfl ⟨s6, A6, n6, c6, rfl, H6.out.1.store hb6 (noInt_two _ _ _ _) (Chg.at2 _ _ _ _), ?_⟩
  exact Chg.owned hn6 (Chg.at2 _ _ _ _) (fun k e => by omega)

end Go.Proofs.YtbocpkjajocpiaaGreatDoor

namespace Go.Dig
set_option linter.unusedVariables false

/-- A quotient's digits from i on, and the rest. -/
structure DivI (B : Nat) (a : List Nat) (b i : Nat) (q : List Nat) (r : Nat) : Prop where
  len : q.length = a.length
  digs : Digs B q
  rest : r < b
  eq : val B (a.drop i) = val B (q.drop i) * b + r
theorem DivI.start {B : Nat} {a : List Nat} {b i : Nat} (hB : 1 ≤ B) (h : val B (a.drop i) < b) : DivI B a b i (List.replicate a.length 0) (val B (a.drop i)) :=
  ⟨by simp, Digs.zeros hB _, h, by rw [List.drop_replicate, val_zeros]; omega⟩
theorem DivI.quo_lt {B : Nat} {a : List Nat} {b i : Nat} {q : List Nat} {r : Nat} (ha : Digs B a) (hB : 1 ≤ B) (h : DivI B a b (i + 1) q r) : B * r + dg a i < B * b := by
  have h1 := dg_lt ha hB i
  have h2 : B * (r + 1) ≤ B * b := Nat.mul_le_mul_left _ h.rest
  rw [Nat.mul_add] at h2
  omega
theorem DivI.step {B : Nat} {a : List Nat} {b i : Nat} {q : List Nat} {r : Nat} (ha : Digs B a) (hB : 1 ≤ B) (h : DivI B a b (i + 1) q r) (hi : i < a.length) :
    DivI B a b i (q.set i ((B * r + dg a i) / b)) ((B * r + dg a i) % b) := by
  have hb : 0 < b := Nat.lt_of_le_of_lt (Nat.zero_le _) h.rest
  have hlt := h.quo_lt ha hB
  have ht : (B * r + dg a i) / b < B := by rw [Nat.div_lt_iff_lt_mul hb]; exact hlt
  refine ⟨by simp [h.len], h.digs.set_ ht, Nat.mod_lt _ hb, ?_⟩
  have hqi : i < q.length := by rw [h.len]; exact hi
  rw [val_drop_dg B a i, val_drop_dg B (q.set i _) i, h.eq]
  have e1 : dg (q.set i ((B * r + dg a i) / b)) i = (B * r + dg a i) / b := dg_some (by rw [List.getElem?_set_self hqi])
  have e2 : (q.set i ((B * r + dg a i) / b)).drop (i + 1) = q.drop (i + 1) := by rw [List.drop_set_of_lt (by omega)]
  rw [e1, e2, Nat.add_mul, Nat.mul_add]
  have := Nat.div_add_mod (B * r + dg a i) b
  rw [Nat.mul_comm b] at this
  have e3 : B * (val B (q.drop (i + 1)) * b) = B * val B (q.drop (i + 1)) * b := by rw [Nat.mul_assoc]
  rw [e3]
  omega
theorem DivI.done {B : Nat} {a : List Nat} {b : Nat} {q : List Nat} {r : Nat} (h : DivI B a b 0 q r) : val B q = val B a / b ∧ r = val B a % b := by
  have e := h.eq
  rw [List.drop_zero, List.drop_zero] at e
  have hb : 0 < b := Nat.lt_of_le_of_lt (Nat.zero_le _) h.rest
  rw [e]
  constructor
  · rw [Nat.mul_comm, Nat.mul_add_div hb, Nat.div_eq_of_lt h.rest]; omega
  · rw [Nat.mul_comm, Nat.mul_add_mod, Nat.mod_eq_of_lt h.rest]

/-- The quotient lies between those of the first digits. -/
theorem quo_bounds {X Y U D P xl yl : Nat} (hX : X = U * P + xl) (hY : Y = D * P + yl) (hx : xl < P) (hy : yl < P) (hD : 1 ≤ D) : U / (D + 1) ≤ X / Y ∧ X / Y ≤ U / D := by
  have hP : 0 < P := by omega
  have hYp : 0 < Y := by rw [hY]; have := Nat.mul_pos hD hP; omega
  constructor
  · rw [Nat.le_div_iff_mul_le hYp]
    have h1 : U / (D + 1) * (D + 1) ≤ U := Nat.div_mul_le_self _ _
    have h2 : Y ≤ (D + 1) * P := by rw [hY, Nat.add_mul]; omega
    calc U / (D + 1) * Y ≤ U / (D + 1) * ((D + 1) * P) := Nat.mul_le_mul_left _ h2
      _ = U / (D + 1) * (D + 1) * P := by rw [Nat.mul_assoc]
      _ ≤ U * P := Nat.mul_le_mul_right _ h1
      _ ≤ X := by rw [hX]; omega
  · rw [Nat.le_div_iff_mul_le (by omega)]
    have h1 : X / Y * Y ≤ X := Nat.div_mul_le_self _ _
    have h2 : X / Y * (D * P) ≤ X / Y * Y := Nat.mul_le_mul_left _ (by rw [hY]; omega)
    have h3 : X / Y * D * P < (U + 1) * P := by rw [Nat.mul_assoc, Nat.add_mul]; omega
    have := Nat.lt_of_mul_lt_mul_right h3
    omega

/-- A digit, or 0, if it does not exist. -/
def dgI (l : List Nat) (i : Int) : Nat := if i < 0 then 0 else dg l i.toNat
theorem dgI_neg {l : List Nat} {i : Int} (h : i < 0) : dgI l i = 0 := by unfold dgI; rw [if_pos h]
theorem dgI_nat (l : List Nat) (i : Nat) : dgI l i = dg l i := by unfold dgI; rw [if_neg (by omega), Int.toNat_natCast]
theorem dgI_lt {B : Nat} {l : List Nat} (h : Digs B l) (hB : 1 ≤ B) (i : Int) : dgI l i < B := by
  unfold dgI
  split
  · omega
  · exact dg_lt h hB _
/-- The first digits of rest and divisor. -/
def upperD (r : List Nat) (k : Nat) : Nat := 10000 * (10000 * dgI r k + dgI r ((k : Int) - 1)) + dgI r ((k : Int) - 2)
def lowerD (b : List Nat) (k : Nat) : Nat := 10000 * dgI b ((k : Int) - 1) + dgI b ((k : Int) - 2)
theorem top_digit {b : List Nat} {y : Nat} (hb : Num 10000 b y) (h : b ≠ []) : 1 ≤ dg b (b.length - 1) := by
  rcases List.eq_nil_or_concat b with rfl | ⟨a, d, rfl⟩
  · exact absurd rfl h
  · rw [List.concat_eq_append] at hb ⊢
    have hd : d ≠ 0 := fun e => hb.trim (by simp [e])
    rw [dg_some (d := d) (by simp)]
    omega
theorem digit_bounds {r b : List Nat} {X Y : Nat} (hr : Num 10000 r X) (hb : Num 10000 b Y) (hY : 1 ≤ Y) (hlt : X < 10000 * Y) :
    1 ≤ lowerD b b.length ∧ upperD r b.length / (lowerD b b.length + 1) ≤ X / Y ∧ X / Y ≤ upperD r b.length / lowerD b b.length := by
  have hbn : b ≠ [] := fun e => by have := (hb.nil_iff (by omega)).1 e; omega
  have ht := top_digit hb hbn
  have hbl : 1 ≤ b.length := by cases b with | nil => exact absurd rfl hbn | cons => simp
  have hrl : r.length ≤ b.length + 1 := by
    refine hr.len_le (by omega) ?_
    have := hb.lt (k := b.length) (by omega) (Nat.le_refl _)
    rw [Nat.pow_succ]
    omega
  have hD : 1 ≤ lowerD b b.length := by
    unfold lowerD
    rw [show ((b.length : Int) - 1) = ((b.length - 1 : Nat) : Int) by omega, dgI_nat]
    omega
  refine ⟨hD, ?_⟩
  rcases Nat.lt_or_ge b.length 2 with h1 | h1
  · have hk : b.length = 1 := by omega
    have hv : Y = dg b 0 := by
      have := val_drop_dg 10000 b 0
      rw [List.drop_zero, List.drop_of_length_le (by omega)] at this
      rw [← hb.val, this]; simp
    have hx : X = dg r 0 + 10000 * dg r 1 := by
      have h2 := val_drop_dg 10000 r 0
      have h3 := val_drop_dg 10000 r 1
      rw [List.drop_of_length_le (i := 1 + 1) (by omega)] at h3
      rw [List.drop_zero] at h2
      rw [← hr.val, h2, h3]; simp
    have hU : upperD r b.length = X * 10000 + 0 := by
      unfold upperD
      rw [hk, dgI_nat, show (((1 : Nat) : Int) - 1) = ((0 : Nat) : Int) by omega, dgI_nat, dgI_neg (by omega), hx]
      omega
    have hL : lowerD b b.length = Y * 10000 + 0 := by
      unfold lowerD
      rw [hk, show (((1 : Nat) : Int) - 1) = ((0 : Nat) : Int) by omega, dgI_nat, dgI_neg (by omega), hv]
      omega
    rw [hU, hL]
    have e : X * 10000 / (Y * 10000) = X / Y := Nat.mul_div_mul_right _ _ (by omega)
    simp only [Nat.add_zero]
    rw [e]
    refine ⟨?_, Nat.le_refl _⟩
    rw [← e]
    exact Nat.div_le_div_left (by omega) (by omega)
  · obtain ⟨m, hm⟩ : ∃ m, b.length = m + 2 := ⟨b.length - 2, by omega⟩
    have hx : X = upperD r b.length * 10000 ^ m + val 10000 (r.take m) := by
      have h0 : val 10000 r = val 10000 (r.take m) + 10000 ^ m * val 10000 (r.drop m) := by
        rcases Nat.le_total m r.length with h | h
        · exact val_split 10000 r m h
        · rw [List.take_of_length_le h, List.drop_of_length_le h]; simp
      have h2 := val_drop_dg 10000 r m
      have h3 := val_drop_dg 10000 r (m + 1)
      have h4 := val_drop_dg 10000 r (m + 2)
      rw [List.drop_of_length_le (i := m + 2 + 1) (by omega)] at h4
      have hU : upperD r b.length = val 10000 (r.drop m) := by
        unfold upperD
        rw [hm, dgI_nat, show (((m + 2 : Nat) : Int) - 1) = ((m + 1 : Nat) : Int) by omega, dgI_nat, show (((m + 2 : Nat) : Int) - 2) = ((m : Nat) : Int) by omega, dgI_nat, h2, h3, h4]
        simp
        omega
      rw [← hr.val, h0, hU, Nat.mul_comm]
      omega
    have hy : Y = lowerD b b.length * 10000 ^ m + val 10000 (b.take m) := by
      have h0 := val_split 10000 b m (by omega)
      have h2 := val_drop_dg 10000 b m
      have h3 := val_drop_dg 10000 b (m + 1)
      rw [List.drop_of_length_le (i := m + 1 + 1) (by omega)] at h3
      have hU : lowerD b b.length = val 10000 (b.drop m) := by
        unfold lowerD
        rw [hm, show (((m + 2 : Nat) : Int) - 1) = ((m + 1 : Nat) : Int) by omega, dgI_nat, show (((m + 2 : Nat) : Int) - 2) = ((m : Nat) : Int) by omega, dgI_nat, h2, h3]
        simp
        omega
      rw [← hb.val, h0, hU, Nat.mul_comm]
      omega
    refine quo_bounds hx hy ?_ ?_ hD
    · have := val_lt (hr.digs.take m)
      exact Nat.lt_of_lt_of_le this (Nat.pow_le_pow_right (by omega) (List.length_take_le _ _))
    · have := val_lt (hb.digs.take m)
      exact Nat.lt_of_lt_of_le this (Nat.pow_le_pow_right (by omega) (List.length_take_le _ _))
end Go.Dig

namespace Go.Proofs.YtbocpkjajocpiaaGreatDoor
set_option linter.unusedVariables false
open Go.RowKit Go.Mem Go.Dig Go.Pure

theorem shl_or32 (w c : Nat) (hw : w < 4294967296) (hc : c < 4294967296) : bits .or .u64 ((w : Int) * 4294967296) (c : Int) = ((w * 4294967296 + c : Nat) : Int) := by
  have e : (w : Int) * 4294967296 = ((w * 4294967296 : Nat) : Int) := by omega
  rw [e, u64_or_nat _ _ (by omega) (by omega)]
  have := Nat.shiftLeft_add_eq_or_of_lt (show c < 2 ^ 32 by omega) w
  rw [Nat.shiftLeft_eq] at this
  rw [show w * 4294967296 = w * 2 ^ 32 by rfl, ← this]

set_option maxRecDepth 100000 in
set_option maxHeartbeats 2000000 in
theorem divWord_any (A : Option Addr) (n c : Nat) (x d : Nat) (w : World) (hx : WM w A n c x) (hn : n ≤ 1000000) (hd1 : 1 ≤ d) (hd2 : d < 4294967296) :
    Calls Tryz.prog 87 #[.slice A n c, .int .u32 d] w fun e w' => ∃ l g, e = .returned (.tuple #[.slice (some ⟨g, 0, none⟩) n n, .int .u32 ((x % d : Nat) : Int)]) ∧ Hid (Rd w' (some ⟨g, 0, none⟩) n (nv .u32 l) ∧ Digs 4294967296 l ∧ val 4294967296 l = x / d ∧ w.heap.size ≤ g ∧ New w w') := by
  obtain ⟨la, ha, hc1, hc2, hNa⟩ := hx
  have hla : la.length = n := by have := ha.len; rwa [nv_length] at this
  obtain ⟨XR, hXR⟩ : ∃ r, x % d = r := ⟨_, rfl⟩
  rw [hXR]
  have H0 := Lib.hid (And.intro ha (And.intro hNa (And.intro hla hXR)))
  clear ha hNa hla hXR
  go_enter Tryz.func87, Tryz.ntmps87
  go_wp2_with (at_make; refine wpList_mk elemU32 rfl rfl _ _ rfl (n := n) rfl rfl rfl rfl (by omega) (by simp only [maxLen]; omega) ?_; intro w1 hown hg hz; have HMK := Lib.hid (And.intro hown (And.intro hg hz)); clear hown hg hz)
  obtain ⟨ho, hnw, hz⟩ := HMK.out
  rw [show List.replicate n (Value.int .u32 0) = nv .u32 (List.replicate n 0) by simp [nv]] at ho
  obtain ⟨g, hgq⟩ : ∃ g, w.heap.size = g := ⟨_, rfl⟩
  rw [hgq] at ho
  have HG := Lib.hid hgq
  have HW := Lib.hid (And.intro hnw ho)
  simp only [hgq]
  clear hgq hnw ho hz HMK
  go_loopw [7, 8] (fun v i wr => ∃ k r : Nat, ∃ q, v = .int .u64 r ∧ i = .int .i64 ((k : Int) - 1) ∧ k ≤ n ∧ r < d ∧ Hid (DivI 4294967296 la d k q r ∧ wr.ownsRow g 108 1 (.slice (some ⟨g, 0, none⟩) n n) n (nv .u32 q) ∧ Chg (fun j => j = g) w1 wr)) (fun _ i _ => (intOf i + 1).toNat)
  case atStart =>
    obtain ⟨ha, hNa, hla, hXR⟩ := H0.out
    have hdr : la.drop n = [] := List.drop_of_length_le (by omega)
    have hst := DivI.start (B := 4294967296) (a := la) (b := d) (i := n) (by omega) (by rw [hdr]; exact hd1)
    rw [hdr, hla] at hst
    exact ⟨n, 0, List.replicate n 0, rfl, rfl, Nat.le_refl _, hd1, hst, HW.out.2, Chg.refl _ _⟩
  case round =>
    obtain ⟨k, r, q, rfl, rfl, hk, hrd, HO⟩ := hrel
    by_cases h0 : k = 0
    · subst h0
      have hrb : r < 4294967296 := by omega
      go_wp2
      go_ret2
      obtain ⟨ha, hNa, hla, hXR⟩ := H0.out
      obtain ⟨hD, hown, hch⟩ := HO.out
      obtain ⟨hq, hr⟩ := hD.done
      rw [hNa.val] at hq hr
      refine ⟨q, g, by rw [← hXR, ← hr]; rfl, Rd.of_own hown, hD.digs, hq, by rw [HG.out]; exact Nat.le_refl _, Chg.owned HW.out.1 hch (fun k e => by have := HG.out; omega)⟩
    · obtain ⟨i, rfl⟩ : ∃ i, k = i + 1 := ⟨k - 1, by omega⟩
      have hij : (((i + 1 : Nat) : Int) - 1) = (i : Int) := by omega
      rw [hij]
      obtain ⟨wo, rfl⟩ : ∃ wo : World, wo = wr := ⟨_, rfl⟩
      obtain ⟨ha, hNa, hla, hXR⟩ := H0.out
      obtain ⟨hD, hown, hch⟩ := HO.out
      have hchg : Chg (fun j => j = g) w wo := (HW.out.1.mono (fun _ _ h => h.elim)).trans hch (fun _ _ h => h)
      obtain ⟨ad, u, rfl, hu, hcu⟩ := (ha.chg hchg (fun k _ h e => by have := HG.out; omega)).at_ (show i < n by omega)
      obtain ⟨p, hp, rfl⟩ := nv_at hu
      have hpb := hNa.digs.at_ hp
      have hst := hD.step hNa.digs (by omega) (by omega)
      have hqb := hD.quo_lt hNa.digs (by omega)
      rw [dg_some hp] at hst hqb
      have hql : q.length = n := by rw [hD.len, hla]
      obtain ⟨z, hz⟩ : ∃ z, q[i]? = some z := ⟨_, List.getElem?_eq_getElem (by omega)⟩
      have hcz := own_cell hown (i := i) (u := .int .u32 (z : Nat)) (by rw [nv, List.getElem?_map, hz]; rfl)
      have hfz := own_frz hown (by omega) i
      obtain ⟨X, hX⟩ : ∃ X, 4294967296 * r + p = X := ⟨_, rfl⟩
      rw [hX] at hst hqb
      have hor : bits .or .u64 ((r : Int) * 4294967296) (p : Int) = (X : Int) := by rw [shl_or32 r p (by omega) hpb]; omega
      obtain ⟨T, hT⟩ : ∃ T, X / d = T := ⟨_, rfl⟩
      obtain ⟨R, hR⟩ : ∃ R, X % d = R := ⟨_, rfl⟩
      have hTi : (X : Int) / (d : Int) = (T : Int) := by rw [← hT]; simp
      have hRi : (X : Int) % (d : Int) = (R : Int) := by rw [← hR]; simp
      have hTb : T < 4294967296 := by
        rw [← hT, Nat.div_lt_iff_lt_mul (by omega)]; exact hqb
      have hRd : R < d := by rw [← hR]; exact Nat.mod_lt _ (by omega)
      have hXb : X ≤ 18446744073709551615 := by omega
      rw [hT, hR] at hst
      have HS := Lib.hid (And.intro hst (And.intro hown hch))
      have hin : (i : Int) < (n : Int) := by omega
      have hinn : i < n := by omega
      have hr64 : r * 4294967296 ≤ 18446744069414584320 := by omega
      clear ha hNa hla hXR hD hown hch hchg hu hp hst hqb hql hz hij hT hR hX
      go_wp2
      go_roundw
      case rel =>
        obtain ⟨hst, hown, hch⟩ := HS.out
        have hset := own_set hown i (.int .u32 (T : Int)) hinn
        rw [nv_set] at hset
        exact ⟨i, R, q.set i T, by rw [hRi], rfl, by omega, hRd, hst, hset, hch.setCell (fun _ => rfl) _⟩
      case measure => simp [intOf]
end Go.Proofs.YtbocpkjajocpiaaGreatDoor

namespace Go.Dig
set_option linter.unusedVariables false

/-- A list by its digits. -/
def lst (N : Nat) (f : Nat → Nat) : List Nat := (List.range N).map f
theorem lst_len (N : Nat) (f : Nat → Nat) : (lst N f).length = N := by simp [lst]
theorem lst_at {N i : Nat} (f : Nat → Nat) (h : i < N) : (lst N f)[i]? = some (f i) := by
  unfold lst
  rw [List.getElem?_map, List.getElem?_range h]
  rfl
theorem lst_set (N i v : Nat) (f : Nat → Nat) : (lst N f).set i v = lst N (fun j => if j = i then v else f j) := by
  apply List.ext_getElem?
  intro j
  rw [List.getElem?_set]
  unfold lst
  rw [List.getElem?_map, List.getElem?_map]
  by_cases hj : j < N
  · rw [List.getElem?_range hj]
    by_cases h : i = j
    · subst h; simp [hj]
    · simp [h, Ne.symm h, hj]
  · rw [List.getElem?_eq_none (l := List.range N) (by simp; omega)]
    by_cases h : i = j
    · subst h; simp [hj]
    · simp [h]
theorem lst_eq (l : List Nat) : lst l.length (dg l) = l := by
  apply List.ext_getElem?
  intro j
  by_cases hj : j < l.length
  · rw [lst_at _ hj, List.getElem?_eq_getElem hj, dg_some (List.getElem?_eq_getElem hj)]
  · rw [List.getElem?_eq_none (by rw [lst_len]; omega), List.getElem?_eq_none (by omega)]
theorem lst_congr {N : Nat} {f g : Nat → Nat} (h : ∀ j, j < N → f j = g j) : lst N f = lst N g := by
  unfold lst
  exact List.map_congr_left (fun j hj => h j (List.mem_range.1 hj))
theorem lst_digs {B N : Nat} {f : Nat → Nat} (h : ∀ j, j < N → f j < B) : Digs B (lst N f) := by
  intro d hd
  obtain ⟨j, hj, rfl⟩ := List.mem_map.1 hd
  exact h j (List.mem_range.1 hj)
theorem lst_succ (N : Nat) (f : Nat → Nat) : lst (N + 1) f = lst N f ++ [f N] := by simp [lst, List.range_succ]

/-- The digit i of a shifted up by s bits (P = 2^s, P * Q = B). -/
def shD (B P Q : Nat) (a : List Nat) (i : Nat) : Nat := dg a i * P % B + (if i = 0 then 0 else dg a (i - 1) / Q)
theorem sh_part {B P Q : Nat} (hQ : 1 ≤ Q) (hPQ : P * Q = B) (hP : 1 ≤ P) (a : List Nat) (k : Nat) : val B (lst k (shD B P Q a)) + B ^ k * (if k = 0 then 0 else dg a (k - 1) / Q) = val B (a.take k) * P := by
  induction k with
  | zero => simp [lst]
  | succ k ih =>
    rw [lst_succ, val_snoc, lst_len, val_take_dg, Nat.add_mul, ← ih, if_neg (by omega), Nat.add_sub_cancel, Nat.pow_succ]
    have e1 : dg a k / Q = dg a k * P / B := by
      rw [← hPQ, Nat.mul_comm P Q, Nat.mul_div_mul_right _ _ (by omega)]
    have e2 := Nat.div_add_mod (dg a k * P) B
    have e3 : B ^ k * (B * (dg a k * P / B) + dg a k * P % B) = B ^ k * (dg a k * P) := by rw [e2]
    unfold shD
    rw [e1, Nat.mul_assoc (B ^ k) B]
    rw [Nat.mul_assoc (B ^ k) (dg a k) P]
    simp only [Nat.mul_add] at e3 ⊢
    omega
theorem shD_lt {B P Q : Nat} (hQ : 1 ≤ Q) (hPQ : P * Q = B) (hP : 1 ≤ P) {a : List Nat} (ha : Digs B a) (i : Nat) : shD B P Q a i < B := by
  have hB : 1 ≤ B := by rw [← hPQ]; exact Nat.mul_pos hP hQ
  have h1 : dg a i * P % B + P ≤ B := by
    have : dg a i * P % B = (dg a i % Q) * P := by rw [← hPQ, Nat.mul_comm P Q, Nat.mul_mod_mul_right]
    rw [this]
    have h2 := Nat.mod_lt (dg a i) (show 0 < Q by omega)
    calc dg a i % Q * P + P = (dg a i % Q + 1) * P := by rw [Nat.add_mul, Nat.one_mul]
      _ ≤ Q * P := Nat.mul_le_mul_right _ h2
      _ = B := by rw [Nat.mul_comm, hPQ]
  unfold shD
  by_cases h0 : i = 0
  · rw [if_pos h0]; omega
  · rw [if_neg h0]
    have h3 : dg a (i - 1) / Q < P := by
      rw [Nat.div_lt_iff_lt_mul (by omega), hPQ]
      exact dg_lt ha hB _
    omega
theorem sh_val {B P Q : Nat} (hQ : 1 ≤ Q) (hPQ : P * Q = B) (hP : 1 ≤ P) (a : List Nat) : val B (lst (a.length + 1) (shD B P Q a)) = val B a * P := by
  have h := sh_part hQ hPQ hP a (a.length + 1)
  rw [if_neg (by omega), Nat.add_sub_cancel, dg_none (Nat.le_refl _), Nat.zero_div, Nat.mul_zero, Nat.add_zero, List.take_of_length_le (by omega)] at h
  exact h

/-- The estimate is not too small: if it is above q it may be lowered. -/
theorem est_hi {N D U3 D2 P dgt q : Nat} (hN : N < (U3 + 1) * P) (hD : D2 * P ≤ D) (h : U3 < dgt * D2) (hq : q * D ≤ N) : q < dgt := by
  rcases Nat.lt_or_ge q dgt with h1 | h1
  · exact h1
  · exfalso
    have h2 : (U3 + 1) * P ≤ dgt * D2 * P := Nat.mul_le_mul_right _ h
    have h3 : dgt * D2 * P ≤ q * D := by
      rw [Nat.mul_assoc]
      exact Nat.mul_le_mul h1 hD
    omega
/-- At the end the estimate is at most one too great. -/
theorem est_lo {N D U3 D2 P B dgt q : Nat} (hN : U3 * P ≤ N) (hD : D < (D2 + 1) * P) (hD2 : B * P ≤ D) (hd : dgt < B) (h : dgt * D2 ≤ U3) (hq : N < (q + 1) * D) : dgt ≤ q + 1 := by
  rcases Nat.lt_or_ge (q + 1) dgt with h1 | h1
  · exfalso
    have hP : 0 < P := by
      rcases Nat.eq_zero_or_pos P with h0 | h0
      · rw [h0] at hD; omega
      · exact h0
    have h2 : dgt * D ≤ dgt * ((D2 + 1) * P) := Nat.mul_le_mul_left _ (Nat.le_of_lt hD)
    have h3 : dgt * ((D2 + 1) * P) = dgt * D2 * P + dgt * P := by rw [Nat.add_mul, Nat.mul_add, Nat.one_mul, Nat.mul_assoc]
    have h4 : dgt * D2 * P ≤ U3 * P := Nat.mul_le_mul_right _ h
    have h5 : dgt * P ≤ B * P := Nat.mul_le_mul_right _ (Nat.le_of_lt hd)
    have h6 : (q + 2) * D ≤ dgt * D := Nat.mul_le_mul_right _ h1
    have h7 : (q + 2) * D = (q + 1) * D + D := by rw [show q + 2 = q + 1 + 1 by omega, Nat.add_mul (q + 1) 1 D, Nat.one_mul]
    omega
  · exact h1
end Go.Dig

namespace Go.Dig
set_option linter.unusedVariables false
/-- Digits on the way of shifting up: those below k are a's. -/
def shU (P Q : Nat) (a : List Nat) (k j : Nat) : Nat := if j < k then dg a j else shD 4294967296 P Q a j
theorem shU_start (P Q : Nat) (la : List Nat) {n : Nat} (h : la.length = n) : nv .u32 la ++ List.drop n (List.replicate (n + 1) (Value.int .u32 0)) = nv .u32 (lst (n + 1) (shU P Q la (n + 1))) := by
  have e : lst (n + 1) (shU P Q la (n + 1)) = la ++ [0] := by
    rw [lst_succ]
    have e1 : lst n (shU P Q la (n + 1)) = la := by
      rw [lst_congr (g := dg la) (fun j hj => by rw [shU, if_pos (by omega)]), ← h, lst_eq]
    rw [e1, shU, if_pos (by omega), dg_none (by omega)]
  rw [e]
  simp [nv]
theorem shU_zero (P Q : Nat) (la : List Nat) : shU P Q la 0 = shD 4294967296 P Q la := by
  funext j
  rw [shU, if_neg (by omega)]
theorem shU_set (N P Q : Nat) (la : List Nat) (i : Nat) : (lst N (shU P Q la (i + 1))).set i (shD 4294967296 P Q la i) = lst N (shU P Q la i) := by
  rw [lst_set]
  apply lst_congr
  intro j hj
  by_cases h : j = i
  · subst h; simp [shU]
  · rw [if_neg h]
    unfold shU
    by_cases h2 : j < i
    · rw [if_pos h2, if_pos (by omega)]
    · rw [if_neg h2, if_neg (by omega)]
theorem shU_next {s d D i j u e E : Nat} (la : List Nat) (hd : dg la i = d) (hD : d * 2 ^ s % 4294967296 = D) (he : dg la j = e) (hji : i = j + 1) (hu : 32 - s = u) (hE : e / 2 ^ u = E) : D + E = shD 4294967296 (2 ^ s) (2 ^ (32 - s)) la i := by
  rw [shD, hd, hD, if_neg (by omega), show i - 1 = j by omega, he, hu, hE]
theorem shU_last {s d D i : Nat} (la : List Nat) (hda : Digs 4294967296 la) (hd : dg la i = d) (hD : d * 2 ^ s % 4294967296 = D) (h : i = 0 ∨ s = 0) : D = shD 4294967296 (2 ^ s) (2 ^ (32 - s)) la i := by
  rw [shD, hd, hD]
  rcases h with h | h
  · rw [if_pos h]; rfl
  · subst h
    have : dg la (i - 1) / 2 ^ (32 - 0) = 0 := Nat.div_eq_of_lt (dg_lt hda (by omega) _)
    rw [this]; simp
end Go.Dig
namespace Go.Proofs.YtbocpkjajocpiaaGreatDoor
set_option linter.unusedVariables false
open Go.RowKit Go.Mem Go.Dig Go.Pure

theorem or_disj {s u d e D E : Nat} (hs : s + u = 32) (he : e < 4294967296) (hD : d * 2 ^ s % 4294967296 = D) (hE : e / 2 ^ u = E) : bits .or .u32 (D : Int) (E : Int) = ((D + E : Nat) : Int) := by
  have hB : (4294967296 : Nat) = 2 ^ u * 2 ^ s := by rw [← Nat.pow_add, show u + s = 32 by omega]
  have h1 : D = (d % 2 ^ u) * 2 ^ s := by rw [← hD, hB, Nat.mul_mod_mul_right]
  have h2 : E < 2 ^ s := by
    rw [← hE, Nat.div_lt_iff_lt_mul (Nat.two_pow_pos _), Nat.mul_comm, ← hB]; exact he
  have h3 : (2 : Nat) ^ s ≤ 4294967296 := by
    rw [show (4294967296 : Nat) = 2 ^ 32 by rfl]; exact Nat.pow_le_pow_right (by omega) (by omega)
  rw [u32_or_nat _ _ (by omega) (by omega)]
  have := Nat.shiftLeft_add_eq_or_of_lt h2 (d % 2 ^ u)
  rw [Nat.shiftLeft_eq, ← h1] at this
  rw [this]

set_option maxRecDepth 100000 in
set_option maxHeartbeats 2000000 in
theorem shifted_any (A : Option Addr) (n c : Nat) (s : Nat) (w : World) (la : List Nat) (ha : Rd w A n (nv .u32 la)) (hda : Digs 4294967296 la) (hc1 : n ≤ c) (hc2 : c ≤ maxLen) (hn : n ≤ 1000000) (hs : s < 32) :
    Calls Tryz.prog 153 #[.slice A n c, .int .i64 s] w fun e w' => ∃ g, e = .returned (.slice (some ⟨g, 0, none⟩) ((n + 1 : Nat)) ((n + 1 : Nat))) ∧ Hid (w'.ownsRow g 108 1 (.slice (some ⟨g, 0, none⟩) ((n + 1 : Nat)) ((n + 1 : Nat))) (n + 1) (nv .u32 (lst (n + 1) (shD 4294967296 (2 ^ s) (2 ^ (32 - s)) la))) ∧ g = w.heap.size ∧ New w w') := by
  have hla : la.length = n := by have := ha.len; rwa [nv_length] at this
  have H0 := Lib.hid (And.intro ha (And.intro hda hla))
  clear ha hda hla
  go_enter Tryz.func153, Tryz.ntmps153
  go_wp2_with (first
    | (at_make; refine wpList_mk elemU32 rfl rfl _ _ rfl (n := n + 1) rfl rfl rfl rfl (by omega) (by simp only [maxLen]; omega) ?_; intro w1 hown hg hz; have HMK := Lib.hid (And.intro hown (And.intro hg hz)); clear hown hg hz)
    | ((with_reducible refine wpList_cp elemU32 rfl (.tmp 11) (.tmp 12) rfl rfl HMK.out.1 rfl (Nat.le_succ _) (H0.out.1.new HMK.out.2.1) (nv_one _) ?_); intro w2 hown2 hch2; have HCP := Lib.hid (And.intro hown2 hch2); clear hown2 hch2))
  obtain ⟨ho, hnw, hz⟩ := HMK.out
  obtain ⟨hown2, hch2⟩ := HCP.out
  obtain ⟨g, hgq⟩ : ∃ g, w.heap.size = g := ⟨_, rfl⟩
  rw [hgq] at hown2 hch2
  have HG := Lib.hid hgq
  have HW := Lib.hid (And.intro hnw (And.intro hown2 hch2))
  simp only [hgq]
  clear hgq hnw ho hz HMK HCP hown2 hch2
  go_loopw [6] (fun i wr => ∃ k : Nat, i = .int .i64 ((k : Int) - 1) ∧ k ≤ n + 1 ∧ Hid (wr.ownsRow g 108 1 (.slice (some ⟨g, 0, none⟩) (n + 1) (n + 1)) (n + 1) (nv .u32 (lst (n + 1) (shU (2 ^ s) (2 ^ (32 - s)) la k))) ∧ Chg (fun j => j = g) w1 wr)) (fun i _ => (intOf i + 1).toNat)
  case atStart =>
    obtain ⟨ha, hda, hla⟩ := H0.out
    refine ⟨n + 1, by simp, Nat.le_refl _, ?_, HW.out.2.2⟩
    have := HW.out.2.1
    rwa [shU_start _ _ _ hla] at this
  case round =>
    obtain ⟨k, rfl, hk, HO⟩ := hrel
    by_cases h0 : k = 0
    · subst h0
      go_wp2
      go_ret
      obtain ⟨hown, hch⟩ := HO.out
      refine ⟨g, rfl, ?_, HG.out.symm, Chg.owned HW.out.1 hch (fun k e => by have := HG.out; omega)⟩
      rwa [shU_zero] at hown
    · obtain ⟨i, rfl⟩ : ∃ i, k = i + 1 := ⟨k - 1, by omega⟩
      have hij : (((i + 1 : Nat) : Int) - 1) = (i : Int) := by omega
      rw [hij]
      obtain ⟨wo, rfl⟩ : ∃ wo : World, wo = wr := ⟨_, rfl⟩
      obtain ⟨ha, hda, hla⟩ := H0.out
      obtain ⟨hown, hch⟩ := HO.out
      obtain ⟨d, hd⟩ : ∃ d, dg la i = d := ⟨_, rfl⟩
      have hcz := own_cell hown (i := i) (u := .int .u32 (d : Nat)) (by rw [nv, List.getElem?_map, lst_at _ (by omega)]; simp [shU, hd])
      have hfz := own_frz hown (by omega) i
      have hin : (i : Int) < (n : Int) + 1 := by omega
      have hdb : d < 4294967296 := by rw [← hd]; exact dg_lt hda (by omega) i
      obtain ⟨D, hD⟩ : ∃ D, d * 2 ^ s % 4294967296 = D := ⟨_, rfl⟩
      have hDi : (d : Int) * 2 ^ s % 4294967296 = (D : Int) := by rw [← hD]; simp
      have hDb : D < 4294967296 := by omega
      have hset := own_set hown i (.int .u32 (D : Int)) (by omega)
      rw [nv_set] at hset
      have hch2 := hch.setCell (p := ⟨g, i, none⟩) (fun _ => rfl) (.int .u32 (D : Int))
      by_cases hcase : 0 < i ∧ 0 < s
      · obtain ⟨j, hji⟩ : ∃ j, i = j + 1 := ⟨i - 1, by omega⟩
        obtain ⟨e, he⟩ : ∃ e, dg la j = e := ⟨_, rfl⟩
        have hce := own_cell hset (i := j) (u := .int .u32 (e : Nat)) (by rw [nv, List.getElem?_map, List.getElem?_set_ne (by omega), lst_at _ (by omega)]; simp only [shU, Option.map_some]; rw [if_pos (by omega), he])
        have hcD := own_cell hset (i := i) (u := .int .u32 (D : Nat)) (by rw [nv, List.getElem?_map, List.getElem?_set_self (by rw [lst_len]; omega)]; rfl)
        have hfD := own_frz hset (by omega) i
        obtain ⟨u, hu⟩ : ∃ u, 32 - s = u := ⟨_, rfl⟩
        have hui : (32 : Int) - (s : Int) = (u : Int) := by omega
        have hij2 : (i : Int) - 1 = (j : Int) := by omega
        obtain ⟨E, hE⟩ : ∃ E, e / 2 ^ u = E := ⟨_, rfl⟩
        have hEi : (e : Int) / 2 ^ u = (E : Int) := by rw [← hE]; simp
        have hor : bits .or .u32 (D : Int) (E : Int) = ((D + E : Nat) : Int) := by
          exact or_disj (by omega) (by rw [← he]; exact dg_lt hda (by omega) j) hD hE
        have hu32 : u < 32 := by omega
        have hs0 : (0 : Int) < (s : Int) := by omega
        have hi0 : (0 : Int) < (i : Int) := by omega
        have hnn : ((i : Int) < (n : Int) + 1) := by omega
        have hnj : ((j : Int) < (n : Int) + 1) := by omega
        have HS := Lib.hid (And.intro hset (And.intro hch2 (And.intro hji (And.intro hd (And.intro he (And.intro hD (And.intro hE hu)))))))
        clear hset hch2 hji hd he hD hE hu hown hch ha hda hla hij hcase h0
        go_wp2
        obtain ⟨wn, hwn⟩ : ∃ wn : World, wo.setCell ⟨g, i, none⟩ (.int .u32 (D : Int)) = wn := ⟨_, rfl⟩
        simp only [hwn]
        rw [hwn] at hce hcD hfD
        go_region
        go_wp2
        go_roundw
        case rel =>
          obtain ⟨hset, hch2, hji, hd, he, hD, hE, hu⟩ := HS.out
          rw [hwn] at hset hch2
          have h3 := own_set hset i (.int .u32 ((D + E : Nat) : Int)) (by omega)
          have h4 : (lst (n + 1) (shU (2 ^ s) (2 ^ (32 - s)) la (i + 1))).set i (D + E) = lst (n + 1) (shU (2 ^ s) (2 ^ (32 - s)) la i) := by rw [shU_next la hd hD he hji hu hE, shU_set]
          rw [nv_set, List.set_set, h4] at h3
          exact ⟨i, by rw [hij2], by omega, h3, (hch2.setCell (p := ⟨g, i, none⟩) (fun _ => rfl) _).drew⟩
        case measure => simp [intOf]; omega
      · have hor : i = 0 ∨ s = 0 := by omega
        have HS := Lib.hid (And.intro hset (And.intro hch2 (And.intro hd (And.intro hda (And.intro hD hor)))))
        have fin : ∃ k : Nat, Value.int .i64 ((i : Int) - 1) = .int .i64 ((k : Int) - 1) ∧ k ≤ n + 1 ∧ Hid ((wo.setCell ⟨g, i, none⟩ (.int .u32 (D : Int))).ownsRow g 108 1 (.slice (some ⟨g, 0, none⟩) (n + 1) (n + 1)) (n + 1) (nv .u32 (lst (n + 1) (shU (2 ^ s) (2 ^ (32 - s)) la k))) ∧ Chg (fun j => j = g) w1 (wo.setCell ⟨g, i, none⟩ (.int .u32 (D : Int)))) := by
          refine ⟨i, rfl, by omega, ?_, hch2⟩
          have h4 : (lst (n + 1) (shU (2 ^ s) (2 ^ (32 - s)) la (i + 1))).set i D = lst (n + 1) (shU (2 ^ s) (2 ^ (32 - s)) la i) := by rw [shU_last la hda hd hD hor, shU_set]
          rwa [h4] at hset
        have HF := Lib.hid fin
        clear hset hch2 hd hD hown hch ha hda hla hij hcase h0 fin
        rcases hor with h | h
        · have hi0 : decide ((0 : Int) < (i : Int)) = false := by simp; omega
          have hi1 : decide (0 < i) = false := by simp; omega
          clear h
          go_wp2
          go_roundw
          case rel => exact HF.out
          case measure => simp [intOf]
        · have hs0 : decide ((0 : Int) < (s : Int)) = false := by simp; omega
          have hs1 : decide (0 < s) = false := by simp; omega
          clear h
          by_cases hi : 0 < i
          · go_wp2
            go_roundw
            case rel => exact HF.out
            case measure => simp [intOf]
          · have hi0 : decide ((0 : Int) < (i : Int)) = false := by simp; omega
            have hi1 : decide (0 < i) = false := by simp; omega
            clear hi
            go_wp2
            go_roundw
            case rel => exact HF.out
            case measure => simp [intOf]
end Go.Proofs.YtbocpkjajocpiaaGreatDoor

namespace Go.Dig
set_option linter.unusedVariables false

/-- A list moved down by s bits (P = 2^s, P * Q = B). -/
def low (B P Q : Nat) : List Nat → List Nat
  | [] => []
  | d :: t => (d / P + dg t 0 * Q % B) :: low B P Q t
theorem low_len (B P Q : Nat) (l : List Nat) : (low B P Q l).length = l.length := by
  induction l with
  | nil => rfl
  | cons d t ih => simp [low, ih]
theorem dg_cons (d : Nat) (t : List Nat) (i : Nat) : dg (d :: t) (i + 1) = dg t i := by simp [dg]
theorem low_at (B P Q : Nat) (l : List Nat) (i : Nat) (h : i < l.length) : (low B P Q l)[i]? = some (dg l i / P + dg l (i + 1) * Q % B) := by
  induction l generalizing i with
  | nil => simp at h
  | cons d t ih =>
    cases i with
    | zero => simp [low, dg]
    | succ i => rw [low, List.getElem?_cons_succ, ih i (by simpa using h), dg_cons, dg_cons]
theorem low_val {B P Q : Nat} (hPQ : P * Q = B) (hP : 1 ≤ P) (hQ : 1 ≤ Q) (l : List Nat) : val B (low B P Q l) = val B l / P := by
  induction l with
  | nil => simp [low]
  | cons d t ih =>
    rw [low, val_cons, ih, val_cons]
    have e0 : (d + B * val B t) / P = d / P + Q * val B t := by
      rw [← hPQ, Nat.mul_assoc, Nat.add_mul_div_left _ _ (by omega)]
    have e1 : val B t = dg t 0 + B * val B (t.drop 1) := by
      have := val_drop_dg B t 0
      rwa [List.drop_zero] at this
    rw [e0, Nat.add_assoc]
    congr 1
    have e2 : val B t / P = dg t 0 / P + Q * val B (t.drop 1) := by
      rw [e1, ← hPQ, Nat.mul_assoc, Nat.add_mul_div_left _ _ (by omega)]
    have e3 : dg t 0 * Q = dg t 0 * Q % B + B * (dg t 0 / P) := by
      have h1 : dg t 0 * Q / B = dg t 0 / P := by rw [← hPQ, Nat.mul_div_mul_right _ _ (by omega)]
      have h2 := Nat.div_add_mod (dg t 0 * Q) B
      rw [h1] at h2
      omega
    rw [e2, Nat.mul_add, ← Nat.add_assoc, ← e3, ← Nat.mul_assoc B Q, Nat.mul_comm B Q, Nat.mul_assoc Q B, Nat.mul_comm (dg t 0) Q, ← Nat.mul_add, ← e1]
theorem low_digs {B P Q : Nat} (hPQ : P * Q = B) (hP : 1 ≤ P) (hQ : 1 ≤ Q) {l : List Nat} (h : Digs B l) : Digs B (low B P Q l) := by
  induction l with
  | nil => exact Digs.nil B
  | cons d t ih =>
    refine Digs.cons ?_ (ih (fun x hx => h x (List.mem_cons_of_mem _ hx)))
    have hB : 1 ≤ B := by rw [← hPQ]; exact Nat.mul_pos hP hQ
    have h1 : d / P < Q := by
      rw [Nat.div_lt_iff_lt_mul (by omega), Nat.mul_comm, hPQ]
      exact h d (List.mem_cons_self ..)
    have h2 : dg t 0 * Q % B + Q ≤ B := by
      have : dg t 0 * Q % B = (dg t 0 % P) * Q := by rw [← hPQ, Nat.mul_mod_mul_right]
      rw [this]
      have h3 := Nat.mod_lt (dg t 0) (show 0 < P by omega)
      calc dg t 0 % P * Q + Q = (dg t 0 % P + 1) * Q := by rw [Nat.add_mul, Nat.one_mul]
        _ ≤ P * Q := Nat.mul_le_mul_right _ h3
        _ = B := hPQ
    omega
end Go.Dig

namespace Go.Dig
set_option linter.unusedVariables false
/-- The row on the way of lowering its first n digits. -/
def lwL (s n : Nat) (L : List Nat) (k : Nat) : List Nat := (low 4294967296 (2 ^ s) (2 ^ (32 - s)) (L.take n)).take k ++ L.drop k
theorem lwL_set {s n i v : Nat} {L : List Nat} (hi : i < n) (hn : n ≤ L.length) (hv : dg (L.take n) i / 2 ^ s + dg (L.take n) (i + 1) * 2 ^ (32 - s) % 4294967296 = v) : (lwL s n L i).set i v = lwL s n L (i + 1) := by
  have hl : (L.take n).length = n := by simp; omega
  have h1 := low_at 4294967296 (2 ^ s) (2 ^ (32 - s)) (L.take n) i (by omega)
  rw [hv] at h1
  unfold lwL
  have h2 : ((low 4294967296 (2 ^ s) (2 ^ (32 - s)) (L.take n)).take i).length = i := by rw [List.length_take, low_len, hl]; omega
  obtain ⟨hh, hx⟩ := List.getElem?_eq_some_iff.1 h1
  rw [List.set_append_right _ _ (by omega), h2, Nat.sub_self, List.drop_eq_getElem_cons (show i < L.length by omega), List.set_cons_zero, List.take_add_one, h1, List.append_assoc]
  rfl
theorem lwL_at {s n i j : Nat} {L : List Nat} (hi : i ≤ j) (hj : j < n) (hn : n ≤ L.length) : (lwL s n L i)[j]? = some (dg (L.take n) j) := by
  have hl : (L.take n).length = n := by simp; omega
  unfold lwL
  have h2 : ((low 4294967296 (2 ^ s) (2 ^ (32 - s)) (L.take n)).take i).length = i := by rw [List.length_take, low_len, hl]; omega
  rw [List.getElem?_append_right (by omega), h2, List.getElem?_drop, show i + (j - i) = j by omega, List.getElem?_eq_getElem (by omega)]
  simp [dg, hj, show j < L.length by omega]
theorem lw_next {s d D E e i n u : Nat} (L : List Nat) (hd : dg (L.take n) i = d) (hD : d / 2 ^ s = D) (he : dg (L.take n) (i + 1) = e) (hu : 32 - s = u) (hE : e * 2 ^ u % 4294967296 = E) : dg (L.take n) i / 2 ^ s + dg (L.take n) (i + 1) * 2 ^ (32 - s) % 4294967296 = D + E := by
  rw [hd, hD, he, hu, hE]
theorem lw_last {s d D i n : Nat} (L : List Nat) (hn : n ≤ L.length) (hd : dg (L.take n) i = d) (hD : d / 2 ^ s = D) (h : n ≤ i + 1 ∨ s = 0) : dg (L.take n) i / 2 ^ s + dg (L.take n) (i + 1) * 2 ^ (32 - s) % 4294967296 = D := by
  rw [hd, hD]
  rcases h with h | h
  · rw [dg_none (by simp; omega)]; simp
  · subst h
    rw [show (2 : Nat) ^ (32 - 0) = 4294967296 by rfl, Nat.mul_mod_left]; rfl
end Go.Dig
namespace Go.Proofs.YtbocpkjajocpiaaGreatDoor
set_option linter.unusedVariables false
open Go.RowKit Go.Mem Go.Dig Go.Pure
theorem or_disj2 {s u d e D E : Nat} (hs : s + u = 32) (hd : d < 4294967296) (hD : d / 2 ^ s = D) (hE : e * 2 ^ u % 4294967296 = E) : bits .or .u32 (D : Int) (E : Int) = ((D + E : Nat) : Int) := by
  have h := or_disj (s := u) (u := s) (by omega) hd hE hD
  have h1 : D < 4294967296 := by
    rw [← hD]; exact Nat.lt_of_le_of_lt (Nat.div_le_self _ _) hd
  have h2 : E < 4294967296 := by omega
  rw [u32_or_nat _ _ h2 h1] at h
  rw [u32_or_nat _ _ h1 h2, Nat.or_comm, h]
  omega

set_option maxRecDepth 100000 in
set_option maxHeartbeats 2000000 in
theorem lowered_any (g n N s : Nat) (L : List Nat) (w : World) (hown : w.ownsRow g 108 1 (.slice (some ⟨g, 0, none⟩) N N) N (nv .u32 L)) (hdL : Digs 4294967296 L) (hnN : n ≤ N) (hN : N ≤ 1000000) (hs : s < 32) :
    Calls Tryz.prog 156 #[.slice (some ⟨g, 0, none⟩) n N, .int .i64 s] w fun e w' => e = .returned (.slice (some ⟨g, 0, none⟩) n N) ∧ Hid (w'.ownsRow g 108 1 (.slice (some ⟨g, 0, none⟩) N N) N (nv .u32 (lwL s n L n)) ∧ Chg (fun k => k = g) w w') := by
  have hla : L.length = N := by have := hown.1; rw [nv_length] at this; omega
  have H0 := Lib.hid (And.intro hown (And.intro hdL hla))
  clear hown hdL hla
  go_enter Tryz.func156, Tryz.ntmps156
  go_wp2
  go_loopw [8, 5] (fun i i' wr => ∃ k : Nat, i = .int .i64 (k : Int) ∧ k ≤ n ∧ Hid (wr.ownsRow g 108 1 (.slice (some ⟨g, 0, none⟩) N N) N (nv .u32 (lwL s n L k)) ∧ Chg (fun j => j = g) w wr)) (fun i _ _ => n - (intOf i).toNat)
  case atStart =>
    obtain ⟨hown, hdL, hla⟩ := H0.out
    refine ⟨0, by simp, Nat.zero_le _, ?_, Chg.refl _ _⟩
    simpa [lwL] using hown
  case round =>
    obtain ⟨k, rfl, hk, HO⟩ := hrel
    by_cases h0 : k = n
    · subst h0
      go_wp2
      go_ret
      exact ⟨rfl, HO⟩
    · have hin : k < n := by omega
      obtain ⟨wo, rfl⟩ : ∃ wo : World, wo = wr := ⟨_, rfl⟩
      obtain ⟨ho, hda, hla⟩ := H0.out
      obtain ⟨hown, hch⟩ := HO.out
      obtain ⟨d, hd⟩ : ∃ d, dg (L.take n) k = d := ⟨_, rfl⟩
      have hdb : d < 4294967296 := by rw [← hd]; exact dg_lt (hda.take n) (by omega) k
      have hat := lwL_at (s := s) (Nat.le_refl k) hin (by omega : n ≤ L.length)
      have hcz := own_cell hown (i := k) (u := .int .u32 (d : Nat)) (by rw [nv, List.getElem?_map, hat, hd]; rfl)
      have hfz := own_frz hown (by omega) k
      have hkn : (k : Int) < (n : Int) := by omega
      obtain ⟨D, hD⟩ : ∃ D, d / 2 ^ s = D := ⟨_, rfl⟩
      have hDi : (d : Int) / 2 ^ s = (D : Int) := by rw [← hD]; simp
      have hDb : D < 4294967296 := by rw [← hD]; exact Nat.lt_of_le_of_lt (Nat.div_le_self _ _) hdb
      have hset := own_set hown k (.int .u32 (D : Int)) (by omega)
      rw [nv_set] at hset
      have hch2 := hch.setCell (p := ⟨g, k, none⟩) (fun _ => rfl) (.int .u32 (D : Int))
      by_cases hcase : k + 1 < n ∧ 0 < s
      · obtain ⟨e, he⟩ : ∃ e, dg (L.take n) (k + 1) = e := ⟨_, rfl⟩
        have hat2 := lwL_at (s := s) (Nat.le_succ k) hcase.1 (by omega : n ≤ L.length)
        have hce := own_cell hset (i := k + 1) (u := .int .u32 (e : Nat)) (by rw [nv, List.getElem?_map, List.getElem?_set_ne (by omega), hat2, he]; rfl)
        have hcD := own_cell hset (i := k) (u := .int .u32 (D : Nat)) (by rw [nv, List.getElem?_map, List.getElem?_set_self (by simp only [lwL, List.length_append, List.length_take, List.length_drop, low_len]; omega)]; rfl)
        have hfD := own_frz hset (by omega) k
        obtain ⟨u, hu⟩ : ∃ u, 32 - s = u := ⟨_, rfl⟩
        have hui : (32 : Int) - (s : Int) = (u : Int) := by omega
        obtain ⟨j, hj⟩ : ∃ j, k + 1 = j := ⟨_, rfl⟩
        have hij2 : (k : Int) + 1 = (j : Int) := by omega
        have hjn : (j : Int) < (n : Int) := by omega
        rw [hj] at hce
        obtain ⟨E, hE⟩ : ∃ E, e * 2 ^ u % 4294967296 = E := ⟨_, rfl⟩
        have hEi : (e : Int) * 2 ^ u % 4294967296 = (E : Int) := by rw [← hE]; simp
        have hor : bits .or .u32 (D : Int) (E : Int) = ((D + E : Nat) : Int) := or_disj2 (by omega) hdb hD hE
        have hu32 : u < 32 := by omega
        have hs0 : (0 : Int) < (s : Int) := by omega
        have hj0 : k < n - 0 := by omega
        have HS := Lib.hid (And.intro hset (And.intro hch2 (And.intro hj (And.intro hd (And.intro he (And.intro hD (And.intro hE (And.intro hu hla))))))))
        have hjn2 : j < n := by omega
        clear hset hch2 hj hd he hD hE hu hown hch ho hda hla hcase h0 hj0 hat hat2
        go_wp2
        obtain ⟨wn, hwn⟩ : ∃ wn : World, wo.setCell ⟨g, k, none⟩ (.int .u32 (D : Int)) = wn := ⟨_, rfl⟩
        simp only [hwn]
        rw [hwn] at hce hcD hfD
        go_region
        go_wp2
        go_roundw
        case rel =>
          obtain ⟨hset, hch2, hji, hd, he, hD, hE, hu, hla⟩ := HS.out
          rw [hwn] at hset hch2
          have h3 := own_set hset k (.int .u32 ((D + E : Nat) : Int)) (by omega)
          rw [nv_set, List.set_set, lwL_set hin (by omega) (lw_next L hd hD he hu hE)] at h3
          exact ⟨k + 1, by rw [← hij2]; rfl, by omega, h3, (hch2.setCell (p := ⟨g, k, none⟩) (fun _ => rfl) _).drew⟩
        case measure => simp [intOf]; omega
      · have hor : n ≤ k + 1 ∨ s = 0 := by omega
        have hset2 := hset
        rw [lwL_set hin (by omega) (lw_last L (by omega) hd hD hor)] at hset2
        have HF := Lib.hid (And.intro hset2 hch2)
        clear hset hset2 hch2 hd hD hown hch ho hda hla hcase h0 hat
        rcases hor with h | h
        · have hi0 : decide ((k : Int) + 1 < (n : Int)) = false := by simp; omega
          have hi1 : decide (k + 1 < n) = false := by simp; omega
          clear h
          go_wp2
          go_roundw
          case rel => exact ⟨k + 1, by simp, by omega, HF.out⟩
          case measure => simp [intOf]; omega
        · have hs0 : decide ((0 : Int) < (s : Int)) = false := by simp; omega
          have hs1 : decide (0 < s) = false := by simp; omega
          clear h
          by_cases hi : k + 1 < n
          · go_wp2
            go_roundw
            case rel => exact ⟨k + 1, by simp, by omega, HF.out⟩
            case measure => simp [intOf]; omega
          · have hi0 : decide ((k : Int) + 1 < (n : Int)) = false := by simp; omega
            have hi1 : decide (k + 1 < n) = false := by simp; omega
            clear hi
            go_wp2
            go_roundw
            case rel => exact ⟨k + 1, by simp, by omega, HF.out⟩
            case measure => simp [intOf]; omega
end Go.Proofs.YtbocpkjajocpiaaGreatDoor

namespace Go.Proofs.YtbocpkjajocpiaaGreatDoor
set_option linter.unusedVariables false
open Go.RowKit Go.Mem Go.Dig Go.Pure

set_option maxRecDepth 100000 in
set_option maxHeartbeats 1000000 in
/-- The closure step of takeAway. -/
theorem takeStep_any (i m cap j N y c q br d : Nat) (l : List Nat) (hi : i < m) (hj : j + m ≤ N) (hN : N ≤ 1000000) (hy : y < 4294967296) (hc : c < 4294967296) (hq : q < 4294967296) (hbr : br ≤ 1) (gc gd gb ga g : Nat) (n1 : g < ga) (n2 : ga < gd) (n3 : gd < gc) (n4 : gc < gb)
    (w : World) (bc : Blk w gc 22 #[.int .u64 c]) (bd : Blk w gd 22 #[.int .u64 q]) (bb : Blk w gb 22 #[.int .u64 br]) (ba : Blk w ga 33 #[.slice (some ⟨g, j, none⟩) m cap])
    (hown : w.ownsRow g 108 1 (.slice (some ⟨g, 0, none⟩) N N) N (nv .u32 l)) (hd : l[j + i]? = some d) (hdb : d < 4294967296) :
    Calls Tryz.prog 175 #[.int .i64 i, .int .u32 y, .pointer (some ⟨gc, 0, none⟩), .pointer (some ⟨gd, 0, none⟩), .pointer (some ⟨gb, 0, none⟩), .pointer (some ⟨ga, 0, none⟩)] w fun e w' => (∃ v, e = .returned v) ∧ ∃ v c' b : Nat, v < 4294967296 ∧ c' < 4294967296 ∧ c' = (c + q * y) / 4294967296 ∧ b ≤ 1 ∧ v + (c + q * y) + br = d + 4294967296 * (c' + b) ∧
      Blk w' gc 22 #[.int .u64 c'] ∧ Blk w' gb 22 #[.int .u64 b] ∧ w'.ownsRow g 108 1 (.slice (some ⟨g, 0, none⟩) N N) N (nv .u32 (l.set (j + i) v)) ∧ Chg (fun k => k = gc ∨ k = gb ∨ k = g) w w' := by
  have hkc := bc.cell 0 (u := .int .u64 c) rfl
  have hfc := bc.frozen 0
  have hkd := bd.cell 0 (u := .int .u64 q) rfl
  have hkb := bb.cell 0 (u := .int .u64 br) rfl
  have hfb := bb.frozen 0
  have hka := ba.cell 0 (u := .slice (some ⟨g, j, none⟩) m cap) rfl
  have hkz := own_cell hown (i := j + i) (u := .int .u32 (d : Nat)) (by rw [nv, List.getElem?_map, hd]; rfl)
  have hfz := own_frz hown (by omega) (j + i)
  obtain ⟨M, hM⟩ : ∃ M, q * y = M := ⟨_, rfl⟩
  have hMb : M ≤ 18446744065119617025 := by rw [← hM]; exact Nat.mul_le_mul (show q ≤ 4294967295 by omega) (show y ≤ 4294967295 by omega)
  have hMi : (q : Int) * (y : Int) = (M : Int) := by rw [← hM]; simp
  obtain ⟨C, hC⟩ : ∃ C, c + M = C := ⟨_, rfl⟩
  have hCi : (c : Int) + (M : Int) = (C : Int) := by omega
  have hCb : C ≤ 18446744069414584320 := by omega
  obtain ⟨c', hc'⟩ : ∃ c', C / 4294967296 = c' := ⟨_, rfl⟩
  have hci' : (C : Int) / 4294967296 = (c' : Int) := by omega
  obtain ⟨lo, hlo⟩ : ∃ lo, C % 4294967296 = lo := ⟨_, rfl⟩
  have hloi : (C : Int) % 4294967296 = (lo : Int) := by omega
  have hand : bits .and .u64 (C : Int) 4294967295 = (lo : Int) := by
    rw [show (4294967295 : Int) = ((4294967295 : Nat) : Int) by rfl, u64_and_nat _ _ (by omega) (by omega), show 4294967295 = 2 ^ 32 - 1 by rfl, Nat.and_two_pow_sub_one_eq_mod, ← hlo]
  obtain ⟨t, ht⟩ : ∃ t, lo + br = t := ⟨_, rfl⟩
  have hti : (lo : Int) + (br : Int) = (t : Int) := by omega
  have htb : t ≤ 4294967296 := by omega
  rw [hM]
  have e1 : gc ≠ gd := by omega
  have e2 : gc ≠ gb := by omega
  have e3 : gc ≠ ga := by omega
  have e4 : gb ≠ ga := by omega
  have e5 : gc ≠ g := by omega
  have e6 : gb ≠ g := by omega
  have hii : (i : Int) < (m : Int) := by omega
  have HB := Lib.hid (And.intro bc (And.intro bb (And.intro hown (And.intro hC (And.intro hc' (And.intro hlo ht))))))
  have hc4 : c' < 4294967296 := by omega
  clear bc bb hown bd ba hd hC hc' hlo ht hM
  by_cases hlt : d < t
  · have hgt : (d : Int) < (t : Int) := by omega
    obtain ⟨v, hv⟩ : ∃ v, d + 4294967296 - t = v := ⟨_, rfl⟩
    have hvw : IntKind.u32.wrap ((d : Int) - (t : Int) % 4294967296) = (v : Int) := subWrap hdb htb (b := 1) (by omega) (by omega) (by omega)
    have HV : Hid (v < 4294967296 ∧ v + t = d + 4294967296) := ⟨by omega, by omega⟩
    have hvw2 : ((d : Int) - (t : Int)) % 4294967296 = (v : Int) := by omega
    clear hv
    go_enter Tryz.func175, Tryz.ntmps175
    go_wp2
    obtain ⟨bc, bb, hown, hC, hc', hlo, ht⟩ := HB.out
    refine bodyPost_end (results_none rfl _ _ _) rfl ⟨⟨_, rfl⟩, v, c', 1, HV.out.1, hc4, by rw [← hc', ← hC], by omega, by have := HV.out.2; omega, ?_, ?_, ?_, ?_⟩
    · exact (((((bc.set1 _).set1 _).far (p := ⟨gb, 0, none⟩) e2 _).far (p := ⟨gb, 0, none⟩) e2 _).far (p := ⟨g, j + i, none⟩) e5 _)
    · exact ((((bb.far (p := ⟨gc, 0, none⟩) e2.symm _).far (p := ⟨gc, 0, none⟩) e2.symm _).set1 _).set1 (.int .u64 ((1 : Nat) : Int))).far (p := ⟨g, j + i, none⟩) e6 _
    · have hA : Chg (fun k => k = gc ∨ k = gb) w ((((w.setCell ⟨gc, 0, none⟩ (.int .u64 (C : Int))).setCell ⟨gc, 0, none⟩ (.int .u64 (c' : Int))).setCell ⟨gb, 0, none⟩ (.int .u64 0)).setCell ⟨gb, 0, none⟩ (.int .u64 1)) := ((((Chg.refl _ w).setCell (p := ⟨gc, 0, none⟩) (fun _ => .inl rfl) _).setCell (p := ⟨gc, 0, none⟩) (fun _ => .inl rfl) _).setCell (p := ⟨gb, 0, none⟩) (fun _ => .inr rfl) _).setCell (p := ⟨gb, 0, none⟩) (fun _ => .inr rfl) _
      have h2 := own_set (own_chg hown hA (fun k hk e => by simp [blk] at hk; omega)) (j + i) (.int .u32 (v : Int)) (by omega)
      rwa [nv_set] at h2
    · exact (((((Chg.refl _ w).setCell (p := ⟨gc, 0, none⟩) (fun _ => .inl rfl) _).setCell (p := ⟨gc, 0, none⟩) (fun _ => .inl rfl) _).setCell (p := ⟨gb, 0, none⟩) (fun _ => .inr (.inl rfl)) _).setCell (p := ⟨gb, 0, none⟩) (fun _ => .inr (.inl rfl)) _).setCell (p := ⟨g, j + i, none⟩) (fun _ => .inr (.inr rfl)) _
  · have hgt : decide ((d : Int) < (t : Int)) = false := by simp; omega
    have hgt' : decide (d < t) = false := by simp; omega
    obtain ⟨v, hv⟩ : ∃ v, d - t = v := ⟨_, rfl⟩
    have hvw : (d : Int) - (t : Int) = (v : Int) := by omega
    have htm : (t : Int) % 4294967296 = (t : Int) := by omega
    have HV : Hid (v < 4294967296 ∧ v + t = d) := ⟨by omega, by omega⟩
    have htd : t ≤ d := by omega
    have hvb : v < 4294967296 := by omega
    clear hv
    go_enter Tryz.func175, Tryz.ntmps175
    go_wp2
    obtain ⟨bc, bb, hown, hC, hc', hlo, ht⟩ := HB.out
    refine bodyPost_end (results_none rfl _ _ _) rfl ⟨⟨_, rfl⟩, v, c', 0, HV.out.1, hc4, by rw [← hc', ← hC], by omega, by have := HV.out.2; omega, ?_, ?_, ?_, ?_⟩
    · exact ((((bc.set1 _).set1 _).far (p := ⟨gb, 0, none⟩) e2 _).far (p := ⟨g, j + i, none⟩) e5 _)
    · exact (((bb.far (p := ⟨gc, 0, none⟩) e2.symm _).far (p := ⟨gc, 0, none⟩) e2.symm _).set1 (.int .u64 ((0 : Nat) : Int))).far (p := ⟨g, j + i, none⟩) e6 _
    · have hA : Chg (fun k => k = gc ∨ k = gb) w (((w.setCell ⟨gc, 0, none⟩ (.int .u64 (C : Int))).setCell ⟨gc, 0, none⟩ (.int .u64 (c' : Int))).setCell ⟨gb, 0, none⟩ (.int .u64 0)) := (((Chg.refl _ w).setCell (p := ⟨gc, 0, none⟩) (fun _ => .inl rfl) _).setCell (p := ⟨gc, 0, none⟩) (fun _ => .inl rfl) _).setCell (p := ⟨gb, 0, none⟩) (fun _ => .inr rfl) _
      have h2 := own_set (own_chg hown hA (fun k hk e => by simp [blk] at hk; omega)) (j + i) (.int .u32 (v : Int)) (by omega)
      rwa [nv_set] at h2
    · exact ((((Chg.refl _ w).setCell (p := ⟨gc, 0, none⟩) (fun _ => .inl rfl) _).setCell (p := ⟨gc, 0, none⟩) (fun _ => .inl rfl) _).setCell (p := ⟨gb, 0, none⟩) (fun _ => .inr (.inl rfl)) _).setCell (p := ⟨g, j + i, none⟩) (fun _ => .inr (.inr rfl)) _

set_option maxRecDepth 100000 in
set_option maxHeartbeats 1000000 in
/-- The closure back of takeAway. -/
theorem takeBack_any (i m cap j N y c d : Nat) (l : List Nat) (hi : i < m) (hj : j + m ≤ N) (hN : N ≤ 1000000) (hy : y < 4294967296) (hc : c ≤ 1) (gc ga g : Nat) (n1 : g < ga) (n2 : ga < gc)
    (w : World) (bc : Blk w gc 22 #[.int .u64 c]) (ba : Blk w ga 33 #[.slice (some ⟨g, j, none⟩) m cap])
    (hown : w.ownsRow g 108 1 (.slice (some ⟨g, 0, none⟩) N N) N (nv .u32 l)) (hd : l[j + i]? = some d) (hdb : d < 4294967296) :
    Calls Tryz.prog 176 #[.int .i64 i, .int .u32 y, .pointer (some ⟨gc, 0, none⟩), .pointer (some ⟨ga, 0, none⟩)] w fun e w' => (∃ v, e = .returned v) ∧ ∃ v c' : Nat, v < 4294967296 ∧ c' ≤ 1 ∧ d + y + c = v + 4294967296 * c' ∧
      Blk w' gc 22 #[.int .u64 c'] ∧ w'.ownsRow g 108 1 (.slice (some ⟨g, 0, none⟩) N N) N (nv .u32 (l.set (j + i) v)) ∧ Chg (fun k => k = gc ∨ k = g) w w' := by
  have hkc := bc.cell 0 (u := .int .u64 c) rfl
  have hfc := bc.frozen 0
  have hka := ba.cell 0 (u := .slice (some ⟨g, j, none⟩) m cap) rfl
  have hkz := own_cell hown (i := j + i) (u := .int .u32 (d : Nat)) (by rw [nv, List.getElem?_map, hd]; rfl)
  have hfz := own_frz hown (by omega) (j + i)
  obtain ⟨M, hM⟩ : ∃ M, d + y = M := ⟨_, rfl⟩
  have hMb : M ≤ 8589934590 := by omega
  have hMi : (d : Int) + (y : Int) = (M : Int) := by omega
  obtain ⟨C, hC⟩ : ∃ C, c + M = C := ⟨_, rfl⟩
  have hCi : (c : Int) + (M : Int) = (C : Int) := by omega
  have hCb : C ≤ 8589934591 := by omega
  obtain ⟨c', hc'⟩ : ∃ c', C / 4294967296 = c' := ⟨_, rfl⟩
  have hci' : (C : Int) / 4294967296 = (c' : Int) := by omega
  obtain ⟨v, hv⟩ : ∃ v, C % 4294967296 = v := ⟨_, rfl⟩
  have hvi : (C : Int) % 4294967296 = (v : Int) := by omega
  have e3 : gc ≠ ga := by omega
  have e5 : gc ≠ g := by omega
  have hii : (i : Int) < (m : Int) := by omega
  have HB := Lib.hid (And.intro bc (And.intro hown (And.intro hM (And.intro hC (And.intro hc' hv)))))
  clear bc hown ba hd hC hc' hv hM
  go_enter Tryz.func176, Tryz.ntmps176
  go_wp2
  go_region
  go_wp2
  obtain ⟨bc, hown, hM, hC, hc', hv⟩ := HB.out
  refine bodyPost_end (results_none rfl _ _ _) rfl ⟨⟨_, rfl⟩, v, c', by omega, by omega, by omega, ?_, ?_, ?_⟩
  · exact (((bc.set1 _).far (p := ⟨g, j + i, none⟩) e5 _).set1 _).drew
  · have hA : Chg (fun k => k = gc) w (w.setCell ⟨gc, 0, none⟩ (.int .u64 (C : Int))) := (Chg.refl (fun k => k = gc) w).setCell (p := ⟨gc, 0, none⟩) (fun _ => rfl) _
    have h2 := own_set (own_chg hown hA (fun k hk e => by simp [blk] at hk; omega)) (j + i) (.int .u32 (v : Int)) (by omega)
    rw [nv_set] at h2
    exact own_chg h2 (((Chg.refl (fun k => k = gc) _).setCell (p := ⟨gc, 0, none⟩) (fun _ => rfl) _).drew) (fun k hk e => by simp [blk] at hk; omega)
  · exact ((((Chg.refl _ w).setCell (p := ⟨gc, 0, none⟩) (fun _ => .inl rfl) _).setCell (p := ⟨g, j + i, none⟩) (fun _ => .inr rfl) _).setCell (p := ⟨gc, 0, none⟩) (fun _ => .inl rfl) _).drew
end Go.Proofs.YtbocpkjajocpiaaGreatDoor

namespace Go.Dig
set_option linter.unusedVariables false

theorem tk_back {B : Nat} {o rest lb o2 : List Nat} {c D U q m : Nat} (hlen : o.length = m) (h : AddI B (o ++ rest) lb m o2 c) (hlb : lb.length ≤ m) (hD : val B lb = D) (ho : val B o + q * D = U + B ^ m) (hqD : q * D ≤ U + D) (hlt : U < q * D) (hDm : D ≤ B ^ m) : val B o2 = U + D - q * D := by
  have e := h.eq
  rw [List.take_left' hlen, List.take_of_length_le hlb, hD] at e
  have h1 := val_lt h.digs
  rw [h.len] at h1
  rcases (show c = 0 ∨ c = 1 by have := h.carry; omega) with h0 | h0
  · subst h0; rw [Nat.mul_zero] at e; omega
  · subst h0; rw [Nat.mul_one] at e; omega

/-- The state of the long division behind the digits from k on. -/
structure KnI (B X D N n k : Nat) (L q : List Nat) : Prop where
  len : L.length = N
  digs : Digs B L
  qlen : q.length = N - n
  qdigs : Digs B q
  low : val B (L.drop k) < D
  eq : X = val B L + D * (B ^ k * val B (q.drop k))
theorem KnI.start {B X D N n : Nat} {L : List Nat} (hB : 1 ≤ B) (hl : L.length = N) (hd : Digs B L) (hX : val B L = X) (hlow : val B (L.drop (N - n)) < D) : KnI B X D N n (N - n) L (List.replicate (N - n) 0) := by
  refine ⟨hl, hd, by simp, Digs.zeros hB _, hlow, ?_⟩
  rw [List.drop_replicate, val_zeros, hX]
  omega
/-- The digits above the window are 0. -/
theorem KnI.up {B X D N n j : Nat} {L q : List Nat} (hB : 1 ≤ B) (h : KnI B X D N n (j + 1) L q) (hD : D ≤ B ^ n) {U : Nat} (hU : val B ((L.drop j).take (n + 1)) = U) : val B (L.drop j) = U ∧ U < B * D ∧ val B (L.drop (j + (n + 1))) = 0 := by
  have h1 := val_drop_dg B L j
  have h2 := dg_lt h.digs hB j
  have h3 := h.low
  have h4 : val B (L.drop j) < B * D := by
    have : B * (val B (L.drop (j + 1)) + 1) ≤ B * D := Nat.mul_le_mul_left _ h3
    rw [Nat.mul_add] at this
    omega
  have h5 : B * D ≤ B ^ (n + 1) := by
    rw [Nat.pow_succ, Nat.mul_comm]
    exact Nat.mul_le_mul_right _ hD
  have h6 : val B (L.drop j) = U + B ^ (n + 1) * val B (L.drop (j + (n + 1))) := by
    rcases Nat.lt_or_ge (L.drop j).length (n + 1) with hl | hl
    · rw [List.take_of_length_le (by omega)] at hU
      have : L.drop (j + (n + 1)) = [] := List.drop_eq_nil_of_le (by rw [List.length_drop] at hl; omega)
      rw [this, val_nil, hU]; omega
    · have := val_split B (L.drop j) (n + 1) hl
      rwa [hU, List.drop_drop] at this
  have h7 : val B (L.drop (j + (n + 1))) = 0 := by
    rcases Nat.eq_zero_or_pos (val B (L.drop (j + (n + 1)))) with h0 | h0
    · exact h0
    · have := Nat.le_mul_of_pos_right (B ^ (n + 1)) h0
      omega
  rw [h7, Nat.mul_zero, Nat.add_zero] at h6
  exact ⟨h6, by omega, h7⟩
theorem KnI.step {B X D N n j : Nat} {L q o : List Nat} (hB : 1 ≤ B) (h : KnI B X D N n (j + 1) L q) (hD : D ≤ B ^ n) (hD0 : 1 ≤ D) (hj : j + (n + 1) ≤ N) {U : Nat} (hU : val B ((L.drop j).take (n + 1)) = U) (ho : o.length = n + 1) (hod : Digs B o) (hov : val B o = U % D) :
    KnI B X D N n j ((L.take j ++ o) ++ L.drop (j + (n + 1))) (q.set j (U / D)) := by
  obtain ⟨h1, h2, h3⟩ := h.up hB hD hU
  have hlen := h.len
  have hq : U / D < B := by
    rw [Nat.div_lt_iff_lt_mul (by omega)]
    exact h2
  have hdrop : ((L.take j ++ o) ++ L.drop (j + (n + 1))).drop j = o ++ L.drop (j + (n + 1)) := by
    rw [List.append_assoc, List.drop_left' (by simp; omega)]
  have htake : ((L.take j ++ o) ++ L.drop (j + (n + 1))).take j = L.take j := by
    rw [List.append_assoc, List.take_left' (by simp; omega)]
  have hv : val B (o ++ L.drop (j + (n + 1))) = U % D := by rw [val_append, h3, Nat.mul_zero, Nat.add_zero, hov]
  refine ⟨by simp [ho]; omega, ((h.digs.take j).app hod).app (h.digs.drop _), by rw [List.length_set]; exact h.qlen, h.qdigs.set_ hq, by rw [hdrop, hv]; exact Nat.mod_lt _ (by omega), ?_⟩
  have hqj : j < q.length := by rw [h.qlen]; omega
  have e1 : val B ((q.set j (U / D)).drop j) = U / D + B * val B (q.drop (j + 1)) := by
    rw [List.drop_set, if_neg (by omega), Nat.sub_self, List.drop_eq_getElem_cons hqj, List.set_cons_zero, val_cons]
  have e2 : val B ((L.take j ++ o) ++ L.drop (j + (n + 1))) = val B (L.take j) + B ^ j * (U % D) := by
    rw [List.append_assoc, val_append, hv, List.length_take, Nat.min_eq_left (by omega)]
  have e3 : val B L = val B (L.take j) + B ^ j * U := by rw [val_split B L j (by omega), h1]
  rw [h.eq, e1, e2, e3, Nat.pow_succ]
  have e4 : B ^ j * U = B ^ j * (D * (U / D)) + B ^ j * (U % D) := by rw [← Nat.mul_add, Nat.div_add_mod]
  rw [e4, Nat.mul_add (B ^ j), Nat.mul_add D, ← Nat.mul_assoc (B ^ j) B, Nat.mul_left_comm D (B ^ j) (U / D)]
  omega
theorem KnI.done {B X D N n : Nat} {L q : List Nat} (h : KnI B X D N n 0 L q) : val B q = X / D ∧ val B L = X % D := by
  have h1 := h.eq
  have h2 := h.low
  rw [List.drop_zero] at h2
  rw [List.drop_zero, Nat.pow_zero, Nat.one_mul] at h1
  rw [h1]
  constructor
  · rw [Nat.add_mul_div_left _ _ (by omega), Nat.div_eq_of_lt h2, Nat.zero_add]
  · rw [Nat.add_mul_mod_self_left, Nat.mod_eq_of_lt h2]
/-- Three digits of the window and two of the divisor. -/
theorem win3 {B m j : Nat} (L : List Nat) : val B ((L.drop j).take (m + 3)) = val B ((L.drop j).take m) + B ^ m * (dg L (j + m) + B * (dg L (j + (m + 1)) + B * dg L (j + (m + 2)))) := by
  rw [val_take_dg, val_take_dg, val_take_dg, dg_drop', dg_drop', dg_drop']
  simp only [Nat.pow_succ, Nat.mul_add, ← Nat.mul_assoc]
  omega
where dg_drop' {l : List Nat} {j k : Nat} : dg (l.drop j) k = dg l (j + k) := by simp [dg, List.getElem?_drop]
theorem den2 {B m : Nat} (b : List Nat) (h : b.length = m + 2) : val B b = val B (b.take m) + B ^ m * (dg b m + B * dg b (m + 1)) := by
  have e : b = b.take (m + 2) := by rw [List.take_of_length_le (by omega)]
  rw [e, val_take_dg, val_take_dg, Nat.pow_succ, ← e]
  simp only [Nat.mul_add, ← Nat.mul_assoc]
  omega
theorem top_bounds {v P H : Nat} (h : v < P) : H * P ≤ v + P * H ∧ v + P * H < (H + 1) * P := by
  rw [Nat.add_mul, Nat.one_mul, Nat.mul_comm P H]
  omega
/-- The estimate's state. -/
structure EsI (B T ld nx u0 Q dgt rest : Nat) : Prop where
  eq : dgt * ld + rest = T
  low : Q ≤ dgt
/-- What the estimate leans on. -/
structure EsB (B U D P T ld nx u0 Q : Nat) : Prop where
  un : (T * B + u0) * P ≤ U
  uo : U < (T * B + u0 + 1) * P
  dn : (nx + B * ld) * P ≤ D
  do_ : D < (nx + B * ld + 1) * P
  bp : B * P ≤ D
  qn : Q * D ≤ U
  qo : U < (Q + 1) * D
  qb : Q < B
  tb : T < ld * B + B
  ld1 : 1 ≤ ld
  ldb : ld < B
  nxb : nx < B
  u0b : u0 < B
theorem EsI.start {B U D P T ld nx u0 Q : Nat} (h : EsB B U D P T ld nx u0 Q) (hP : 1 ≤ P) : EsI B T ld nx u0 Q (T / ld) (T % ld) := by
  have h1 := h.ld1
  refine ⟨by have := Nat.div_add_mod T ld; rw [Nat.mul_comm]; exact this, ?_⟩
  rw [Nat.le_div_iff_mul_le (by omega)]
  -- Q * ld * B * P ≤ Q * D ≤ U < (T * B + u0 + 1) * P
  rcases Nat.lt_or_ge T (Q * ld) with hlt | hge
  · exfalso
    have e1 : (T * B + u0 + 1) * P ≤ (Q * ld * B) * P := by
      apply Nat.mul_le_mul_right
      have : (T + 1) * B ≤ Q * ld * B := Nat.mul_le_mul_right _ hlt
      rw [Nat.add_mul, Nat.one_mul] at this
      have := h.u0b
      omega
    have e2 : (Q * ld * B) * P ≤ Q * D := by
      have : Q * ld * B * P = Q * (B * ld * P) := by
        rw [Nat.mul_assoc Q ld B, Nat.mul_assoc, Nat.mul_comm ld B]
      rw [this]
      apply Nat.mul_le_mul_left
      refine Nat.le_trans ?_ h.dn
      exact Nat.mul_le_mul_right _ (by omega)
    have := h.qn
    have := h.uo
    omega
  · exact hge
/-- While the test says so the estimate is too great. -/
theorem EsI.down {B U D P T ld nx u0 Q dgt rest : Nat} (hb : EsB B U D P T ld nx u0 Q) (h : EsI B T ld nx u0 Q dgt rest) (ht : B ≤ dgt ∨ rest * B + u0 < dgt * nx) : 1 ≤ dgt ∧ EsI B T ld nx u0 Q (dgt - 1) (rest + ld) := by
  have hlt : Q < dgt := by
    rcases ht with ht | ht
    · have := hb.qb; omega
    · refine est_hi (N := U) (D := D) (U3 := T * B + u0) (D2 := nx + B * ld) (P := P) hb.uo hb.dn ?_ hb.qn
      have e := h.eq
      have e2 : T * B = dgt * (B * ld) + rest * B := by
        rw [← e, Nat.add_mul, Nat.mul_assoc, Nat.mul_comm ld B]
      rw [e2, Nat.mul_add]
      omega
  refine ⟨by omega, ?_, by omega⟩
  have e := h.eq
  obtain ⟨d, rfl⟩ : ∃ d, dgt = d + 1 := ⟨dgt - 1, by omega⟩
  rw [Nat.add_mul, Nat.one_mul] at e
  rw [Nat.add_sub_cancel]
  omega
theorem EsI.exit {B U D P T ld nx u0 Q dgt rest : Nat} (hb : EsB B U D P T ld nx u0 Q) (h : EsI B T ld nx u0 Q dgt rest) (ht : (dgt < B ∧ dgt * nx ≤ rest * B + u0) ∨ B ≤ rest) : dgt < B ∧ Q ≤ dgt ∧ dgt ≤ Q + 1 := by
  have e := h.eq
  have hlt : dgt < B ∧ dgt * nx ≤ rest * B + u0 := by
    rcases ht with ht | ht
    · exact ht
    · have h1 : dgt < B := by
        have := hb.tb
        have h2 : dgt * ld < B * ld := by rw [Nat.mul_comm B ld]; omega
        exact Nat.lt_of_mul_lt_mul_right h2
      refine ⟨h1, ?_⟩
      have h2 : dgt * nx ≤ B * B := Nat.mul_le_mul (by omega) (by have := hb.nxb; omega)
      have h3 : B * B ≤ rest * B := Nat.mul_le_mul_right _ ht
      omega
  refine ⟨hlt.1, h.low, ?_⟩
  refine est_lo (N := U) (D := D) (U3 := T * B + u0) (D2 := nx + B * ld) (P := P) (B := B) hb.un hb.do_ hb.bp hlt.1 ?_ hb.qo
  have e2 : T * B = dgt * (B * ld) + rest * B := by
    rw [← e, Nat.add_mul, Nat.mul_assoc, Nat.mul_comm ld B]
  rw [e2, Nat.mul_add]
  omega
/-- What the settling finds. -/
theorem settle_val {U D Q dgt : Nat} (hD : 1 ≤ D) (hQ : U / D = Q) (h1 : Q ≤ dgt) (h2 : dgt ≤ Q + 1) : dgt * D ≤ U + D ∧ (U < dgt * D → U + D - dgt * D = U % D ∧ dgt - 1 = Q ∧ 1 ≤ dgt) ∧ (¬ U < dgt * D → U - dgt * D = U % D ∧ dgt = Q) := by
  have e := Nat.div_add_mod U D
  have l := Nat.mod_lt U (show 0 < D by omega)
  rw [hQ, Nat.mul_comm] at e
  rcases (show dgt = Q ∨ dgt = Q + 1 by omega) with h | h
  · subst h
    exact ⟨by omega, fun h => by omega, fun _ => ⟨by omega, rfl⟩⟩
  · subst h
    rw [Nat.add_mul, Nat.one_mul]
    exact ⟨by omega, fun _ => ⟨by omega, by omega, by omega⟩, fun h => by omega⟩
theorem KnI.esb {B X D N n m j : Nat} {L q b : List Nat} (hB : 2 ≤ B) (h : KnI B X D N n (j + 1) L q) (hn : n = m + 2) (hb : Digs B b) (hbl : b.length = n) (hbD : val B b = D) (hld : 1 ≤ dg b (m + 1)) {U : Nat} (hU : val B ((L.drop j).take (n + 1)) = U) :
    EsB B U D (B ^ m) (dg L (j + (m + 2)) * B + dg L (j + (m + 1))) (dg b (m + 1)) (dg b m) (dg L (j + m)) (U / D) := by
  subst hn
  have hDn : D ≤ B ^ (m + 2) := by have := val_lt hb; rw [hbD, hbl] at this; omega
  have hD2 := den2 (B := B) b hbl
  rw [hbD] at hD2
  have hU3 := win3 (B := B) (m := m) (j := j) L
  rw [show m + 3 = m + 2 + 1 by omega, hU] at hU3
  have t1 := top_bounds (H := dg L (j + m) + B * (dg L (j + (m + 1)) + B * dg L (j + (m + 2)))) (show val B ((L.drop j).take m) < B ^ m by
    have := val_lt ((h.digs.drop j).take m)
    refine Nat.lt_of_lt_of_le this (Nat.pow_le_pow_right (by omega) (by simp; omega)))
  have t2 := top_bounds (H := dg b m + B * dg b (m + 1)) (show val B (b.take m) < B ^ m by
    have := val_lt (hb.take m)
    refine Nat.lt_of_lt_of_le this (Nat.pow_le_pow_right (by omega) (by simp; omega)))
  rw [← hU3] at t1
  rw [← hD2] at t2
  have eT : (dg L (j + (m + 2)) * B + dg L (j + (m + 1))) * B + dg L (j + m) = dg L (j + m) + B * (dg L (j + (m + 1)) + B * dg L (j + (m + 2))) := by
    rw [Nat.mul_comm _ B, Nat.mul_comm _ B]
    simp only [Nat.mul_add]
    omega
  have hP : 1 ≤ B ^ m := Nat.one_le_pow _ _ (by omega)
  have hD1 : 1 ≤ D := by
    have : 1 * 1 ≤ (dg b m + B * dg b (m + 1)) * B ^ m := Nat.mul_le_mul (by have := Nat.mul_le_mul (show 1 ≤ B by omega) hld; omega) hP
    omega
  obtain ⟨u1, u2, u3⟩ := h.up (by omega) hDn hU
  refine ⟨by rw [eT]; exact t1.1, by rw [eT]; exact t1.2, t2.1, t2.2, ?_, Nat.div_mul_le_self _ _, ?_, ?_, ?_, hld, dg_lt hb (by omega) _, dg_lt hb (by omega) _, dg_lt h.digs (by omega) _⟩
  · refine Nat.le_trans (Nat.mul_le_mul_right _ ?_) t2.1
    have := Nat.mul_le_mul_left B hld
    omega
  · have := Nat.div_add_mod U D
    have l := Nat.mod_lt U (show 0 < D by omega)
    rw [Nat.add_mul, Nat.one_mul, Nat.mul_comm]
    omega
  · rw [Nat.div_lt_iff_lt_mul (by omega)]; exact u2
  · -- the top digit of the window is at most the divisor's
    have hle : dg L (j + (m + 2)) ≤ dg b (m + 1) := by
      rcases Nat.lt_or_ge (dg b (m + 1)) (dg L (j + (m + 2))) with hlt | hge
      · exfalso
        have h1 := h.low
        have h2 : B ^ (m + 1) * dg L (j + (m + 2)) ≤ val B (L.drop (j + 1)) := by
          have e1 : val B ((L.drop (j + 1)).take (m + 1 + 1)) = val B ((L.drop (j + 1)).take (m + 1)) + B ^ (m + 1) * dg (L.drop (j + 1)) (m + 1) := val_take_dg B _ _
          have e2 : dg (L.drop (j + 1)) (m + 1) = dg L (j + (m + 2)) := by
            simp only [dg, List.getElem?_drop]
            rw [show j + 1 + (m + 1) = j + (m + 2) by omega]
          rw [e2] at e1
          have e3 : val B ((L.drop (j + 1)).take (m + 1 + 1)) ≤ val B (L.drop (j + 1)) := by
            rcases Nat.lt_or_ge (L.drop (j + 1)).length (m + 1 + 1) with hl | hl
            · rw [List.take_of_length_le (by omega)]; exact Nat.le_refl _
            · rw [val_split B (L.drop (j + 1)) (m + 1 + 1) hl]; omega
          omega
        have h3 : (dg b (m + 1) + 1) * B ^ (m + 1) ≤ B ^ (m + 1) * dg L (j + (m + 2)) := by
          rw [Nat.mul_comm]; exact Nat.mul_le_mul_left _ hlt
        have h4 : D < (dg b (m + 1) + 1) * B ^ (m + 1) := by
          refine Nat.lt_of_lt_of_le t2.2 ?_
          rw [Nat.pow_succ, Nat.mul_comm (B ^ m) B, ← Nat.mul_assoc]
          apply Nat.mul_le_mul_right
          have := dg_lt hb (show 1 ≤ B by omega) m
          rw [Nat.add_mul, Nat.one_mul, Nat.mul_comm B]
          omega
        omega
      · exact hge
    have := dg_lt h.digs (show 1 ≤ B by omega) (j + (m + 1))
    have h2 := Nat.mul_le_mul_right B hle
    omega
end Go.Dig
