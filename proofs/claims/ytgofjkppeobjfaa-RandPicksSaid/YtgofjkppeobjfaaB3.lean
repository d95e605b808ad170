/- The parts RefB, RefC, RefD, RefE, PureDig3, RefF, RandBound, RefG, RefH, Words, WideH of the proof, in one text. -/
import Derived.Deep.QuietTactic
import Derived.BigQuiet
import Derived.Deep.RegionWith
import Derived.Deep.RegionHeld3
import Derived.IntWalk
import Derived.Test.YtgofjkppeobjfaaB2
set_option linter.unusedSimpArgs false
set_option linter.unusedVariables false

namespace Go.Proofs.Ytgofjkppeobjfaa
set_option linter.unusedVariables false
open Go.RowKit Go.Mem Go.Dig

set_option maxRecDepth 100000 in
set_option maxHeartbeats 1000000 in
theorem compared_any (A : Option Addr) (n c : Nat) (A' : Option Addr) (n' c' : Nat) (x y : Nat) (w : World) (hx : DM w A n c x) (hy : DM w A' n' c' y) :
    Calls Try.prog 68 #[.slice A n c, .slice A' n' c'] w fun e w' => e = .returned (.int .i64 (cmpI x y)) ∧ ∃ q, w' = w.drewN q := by
  obtain ⟨la, ha, hc1, hc2, hNa⟩ := hx
  obtain ⟨lb, hb, hd1, hd2, hNb⟩ := hy
  have hla : la.length = n := by have := ha.len; rwa [nv_length] at this
  have hlb : lb.length = n' := by have := hb.len; rwa [nv_length] at this
  rcases Nat.lt_trichotomy n n' with h | h | h
  · rw [cmpI_lt (by have := hNa.len_lt (by omega) hNb (by omega); omega)]
    have hlt : (n : Int) < (n' : Int) := by omega
    clear hla hlb ha hb hNa hNb
    go_enter Try.func68, Try.ntmps68
    go_wp2
    go_ret
    exact ⟨rfl, 0, rfl⟩
  · subst h
    obtain ⟨C, hC⟩ : ∃ C, cmpI x y = C := ⟨_, rfl⟩
    rw [hC]
    have H0 := Lib.hid (And.intro ha (And.intro hb (And.intro hNa (And.intro hNb (And.intro hla (And.intro hlb hC))))))
    clear ha hb hNa hNb hla hlb hC
    go_enter Try.func68, Try.ntmps68
    go_wp2
    go_loopw [5] (fun i wr => ∃ k : Nat, k ≤ n ∧ i = .int .i64 ((k : Int) - 1) ∧ Hid (la.drop k = lb.drop k) ∧ ∃ q, wr = w.drewN q) (fun i _ => (intOf i + 1).toNat)
    case atStart =>
      obtain ⟨ha, hb, hNa, hNb, hla, hlb, hC⟩ := H0.out
      exact ⟨n, Nat.le_refl _, rfl, by show _ = _; rw [List.drop_of_length_le (by omega), List.drop_of_length_le (by omega)], 0, rfl⟩
    case round =>
      obtain ⟨k, hk, rfl, HD, q, hq⟩ := hrel
      have hnew : New w wr := by rw [hq]; exact (Chg.refl _ w).drewN q
      have HQ := Lib.hid hq
      clear hq
      by_cases h0 : k = 0
      · subst h0
        go_wp2
        go_ret
        obtain ⟨ha, hb, hNa, hNb, hla, hlb, hC⟩ := H0.out
        have e := HD.out
        rw [List.drop_zero, List.drop_zero] at e
        rw [← hC, cmpI_eq (by rw [← hNa.val, ← hNb.val, e])]
        exact ⟨rfl, q, HQ.out⟩
      · obtain ⟨j, rfl⟩ : ∃ j, k = j + 1 := ⟨k - 1, by omega⟩
        obtain ⟨ha, hb, hNa, hNb, hla, hlb, hC⟩ := H0.out
        obtain ⟨ad, u, rfl, hu, hcu⟩ := (ha.new hnew).at_ (show j < n by omega)
        obtain ⟨bd, v, rfl, hv, hcv⟩ := (hb.new hnew).at_ (show j < n by omega)
        obtain ⟨p, hp, rfl⟩ := nv_at hu
        obtain ⟨r, hr, rfl⟩ := nv_at hv
        have HP := Lib.hid (And.intro hp hr)
        have hj1 : (((j + 1 : Nat) : Int) - 1) = (j : Int) := by omega
        rw [hj1]
        clear hj1 ha hb hNa hNb hla hlb hC hu hv hp hr hnew
        rcases Nat.lt_trichotomy p r with h | h | h
        · have hlt : (p : Int) < (r : Int) := by omega
          go_wp2
          go_quiet (fail)
          go_wp2
          go_ret
          obtain ⟨ha, hb, hNa, hNb, hla, hlb, hC⟩ := H0.out
          obtain ⟨hp, hr⟩ := HP.out
          have := val_lt_of hNa.digs (by omega) hp hr HD.out h
          rw [hNa.val, hNb.val] at this
          rw [← hC, cmpI_lt (by omega)]
          exact ⟨rfl, _, by rw [HQ.out, World.drewN_drewN]⟩
        · subst h
          have hlt : decide ((p : Int) < (p : Int)) = false := by simp
          go_wp2
          go_quiet (fail)
          go_wp2
          go_quiet (fail)
          go_wp2
          go_roundw
          case rel =>
            obtain ⟨hp, hr⟩ := HP.out
            exact ⟨j, by omega, by go_num, drop_step hp hr HD.out, _, by rw [HQ.out, World.drewN_drewN]⟩
          case measure => simp [intOf]
        · have hlt : decide ((p : Int) < (r : Int)) = false := by simp; omega
          have hgt : (r : Int) < (p : Int) := by omega
          go_wp2
          go_quiet (fail)
          go_wp2
          go_quiet (fail)
          go_wp2
          go_ret
          obtain ⟨ha, hb, hNa, hNb, hla, hlb, hC⟩ := H0.out
          obtain ⟨hp, hr⟩ := HP.out
          have := val_lt_of hNb.digs (by omega) hr hp HD.out.symm h
          rw [hNa.val, hNb.val] at this
          rw [← hC, cmpI_gt (by omega)]
          exact ⟨rfl, _, by rw [World.drewN_drewN, HQ.out, World.drewN_drewN]⟩
  · rw [cmpI_gt (by have := hNb.len_lt (by omega) hNa (by omega); omega)]
    have hlt : decide ((n : Int) < (n' : Int)) = false := by simp; omega
    have hlt' : decide (n < n') = false := by simp; omega
    have hgt : (n' : Int) < (n : Int) := by omega
    clear hla hlb ha hb hNa hNb
    go_enter Try.func68, Try.ntmps68
    go_wp2
    go_ret
    exact ⟨rfl, 0, rfl⟩

set_option maxHeartbeats 400000 in
theorem rcompare_any (v v' : Value) (x y : Int) (w : World) (hx : RN w v x) (hy : RN w v' y) :
    Calls Try.prog 44 #[v, v'] w fun e w' => e = .returned (.int .i64 (cmpI x y)) ∧ New w w' := by
  obtain ⟨s, A, n, c, rfl, hs, hm⟩ := hx
  obtain ⟨s', A', n', c', rfl, hs', hm'⟩ := hy
  have H := Lib.hid (And.intro hs (And.intro hm (And.intro hs' hm')))
  clear hs hs' hm hm'
  cases s <;> cases s'
  · go_enter Try.func44, Try.ntmps44
    go_wp2_with fail
    obtain ⟨hs, hm, hs', hm'⟩ := H.out
    have hn0 : New w ((w.alloc (.cells #[.bool false, .slice A n c] 64)).alloc (.cells #[.bool false, .slice A' n' c'] 64)) := ((Chg.refl _ w).alloc _).alloc _
    refine (compared_any A n c A' n' c' x.natAbs y.natAbs _ (hm.new hn0) (hm'.new hn0)).mono ?_
    rintro e w1 ⟨rfl, q, hq⟩
    have h1 : ¬ x < 0 := by simpa using hs.symm
    have h2 : ¬ y < 0 := by simpa using hs'.symm
    rw [show ((x.natAbs : Nat) : Int) = x by omega, show ((y.natAbs : Nat) : Int) = y by omega]
    have H1 := Lib.hid (show New w w1 by rw [hq]; exact hn0.drewN q)
    clear hs hm hs' hm' hn0 hq h1 h2
    go_wp2
    go_ret
    exact ⟨rfl, H1.out⟩
  · go_enter Try.func44, Try.ntmps44
    go_wp2
    go_ret
    obtain ⟨hs, hm, hs', hm'⟩ := H.out
    have h1 : ¬ x < 0 := by simpa using hs.symm
    have h2 : y < 0 := by simpa using hs'.symm
    exact ⟨by rw [cmpI_gt (by omega)]; rfl, ((Chg.refl _ w).alloc _).alloc _⟩
  · go_enter Try.func44, Try.ntmps44
    go_wp2
    go_ret
    obtain ⟨hs, hm, hs', hm'⟩ := H.out
    have h1 : x < 0 := by simpa using hs.symm
    have h2 : ¬ y < 0 := by simpa using hs'.symm
    exact ⟨by rw [cmpI_lt (by omega)]; rfl, ((Chg.refl _ w).alloc _).alloc _⟩
  · go_enter Try.func44, Try.ntmps44
    go_wp2_with fail
    obtain ⟨hs, hm, hs', hm'⟩ := H.out
    have hn0 : New w ((w.alloc (.cells #[.bool true, .slice A n c] 64)).alloc (.cells #[.bool true, .slice A' n' c'] 64)) := ((Chg.refl _ w).alloc _).alloc _
    refine (compared_any A' n' c' A n c y.natAbs x.natAbs _ (hm'.new hn0) (hm.new hn0)).mono ?_
    rintro e w1 ⟨rfl, q, hq⟩
    have h1 : x < 0 := by simpa using hs.symm
    have h2 : y < 0 := by simpa using hs'.symm
    rw [show cmpI ((y.natAbs : Nat) : Int) ((x.natAbs : Nat) : Int) = cmpI x y by
      rw [show ((y.natAbs : Nat) : Int) = -y by omega, show ((x.natAbs : Nat) : Int) = -x by omega]
      unfold cmpI
      repeat' split
      all_goals omega]
    have H1 := Lib.hid (show New w w1 by rw [hq]; exact hn0.drewN q)
    clear hs hm hs' hm' hn0 hq h1 h2
    go_wp2
    go_ret
    exact ⟨rfl, H1.out⟩

set_option maxHeartbeats 400000 in
theorem at_any (A : Option Addr) (n c : Nat) (l : List Nat) (i : Nat) (w : World) (hr : Rd w A n (nv .i64 l)) (hn : n ≤ 9223372036854775807) :
    Calls Try.prog 79 #[.slice A n c, .int .i64 i] w fun e w' => e = .returned (.int .i64 (dg l i)) ∧ w = w' := by
  have hl : l.length = n := by have := hr.len; rwa [nv_length] at this
  by_cases h : i < n
  · obtain ⟨ad, u, rfl, hu, hcu⟩ := hr.at_ h
    obtain ⟨z, hz, rfl⟩ := nv_at hu
    rw [dg_some hz]
    have hlt : (i : Int) < (n : Int) := by omega
    clear hr hl hu hz
    go_enter Try.func79, Try.ntmps79
    go_wp2
    go_ret
    exact ⟨rfl, rfl⟩
  · rw [dg_none (by omega)]
    have hlt : decide ((i : Int) < (n : Int)) = false := by simp; omega
    have hlt' : decide (i < n) = false := by simp; omega
    clear hr hl
    go_enter Try.func79, Try.ntmps79
    go_wp2
    go_ret
    exact ⟨rfl, rfl⟩

/-- A slice of the call's own with digits whose value is m. -/
def OM (w : World) (base : Nat) (A : Option Addr) (n c : Nat) (m : Nat) : Prop := ∃ l, w.ownsRow base 3 1 (.slice A n c) n (nv .i64 l) ∧ Digs 10000 l ∧ val 10000 l = m

set_option maxRecDepth 100000 in
set_option maxHeartbeats 2000000 in
theorem plus_any (A : Option Addr) (n c : Nat) (A' : Option Addr) (n' c' : Nat) (x y : Nat) (w : World) (hx : DM w A n c x) (hy : DM w A' n' c' y) (hn : n ≤ 1000000) (hn' : n' ≤ 1000000) :
    Calls Try.prog 78 #[.slice A n c, .slice A' n' c'] w fun e w' => ∃ R k d, e = .returned (.slice R k d) ∧ OM w' w.heap.size R k d (x + y) ∧ New w w' := by
  obtain ⟨la, ha, hc1, hc2, hNa⟩ := hx
  obtain ⟨lb, hb, hd1, hd2, hNb⟩ := hy
  have hla : la.length = n := by have := ha.len; rwa [nv_length] at this
  have hlb : lb.length = n' := by have := hb.len; rwa [nv_length] at this
  have H0 := Lib.hid (And.intro ha (And.intro hb (And.intro hNa (And.intro hNb (And.intro hla hlb)))))
  clear ha hb hNa hNb hla hlb
  go_enter Try.func78, Try.ntmps78
  go_wp2
  go_loopw [5, 6, 7] (fun v u i wr => ∃ k cr : Nat, ∃ R d o, v = .slice R k d ∧ u = .int .i64 cr ∧ i = .int .i64 k ∧ cr ≤ 1 ∧ k ≤ 1000001 ∧ Hid (AddI 10000 la lb k o cr ∧ wr.ownsRow w.heap.size 3 1 (.slice R k d) k (nv .i64 o) ∧ New w wr)) (fun _ _ i _ => 1000002 - (intOf i).toNat)
  case atStart => exact ⟨0, 0, none, 0, [], rfl, rfl, rfl, by omega, by omega, AddI.start _ _ _, World.ownsRow_nil _ _ _ _, Chg.refl _ _⟩
  case round =>
    obtain ⟨k, cr, R, d, o, rfl, rfl, rfl, hcr, hk, HO⟩ := hrel
    by_cases hgo : k < n ∨ k < n' ∨ 0 < cr
    · have hk1 : k ≤ 1000000 := by
        rcases Nat.lt_or_ge 1000000 k with h | h
        · exfalso
          obtain ⟨ha, hb, hNa, hNb, hla, hlb⟩ := H0.out
          have hcz := HO.out.1.carry0 (m := 1000000) (by omega) hNa.digs hNb.digs (by omega) (by omega) (by omega)
          omega
        · exact h
      have hda : dg la k < 10000 := dg_lt H0.out.2.2.1.digs (by omega) k
      have hdb : dg lb k < 10000 := dg_lt H0.out.2.2.2.1.digs (by omega) k
      have HN := Lib.hid (HO.out.1.step (by omega) H0.out.2.2.1.digs H0.out.2.2.2.1.digs)
      obtain ⟨p, hp⟩ : ∃ p, dg la k = p := ⟨_, rfl⟩
      obtain ⟨r, hr⟩ : ∃ r, dg lb k = r := ⟨_, rfl⟩
      rw [hp] at hda HN
      rw [hr] at hdb HN
      have HPR := Lib.hid (And.intro hp hr)
      clear hp hr
      have hguard : k < n ∨ (¬ k < n ∧ k < n') ∨ (¬ k < n ∧ ¬ k < n' ∧ cr = 1) := by omega
      clear hgo
      rcases hguard with h1 | ⟨h1, h2⟩ | ⟨h1, h2, h3⟩
      · have g1 : decide ((k : Int) < (n : Int)) = true := by simp; omega
        have g1' : decide (k < n) = true := by simp; omega
        go_wp2_with fail
        obtain ⟨ha, hb, hNa, hNb, hla, hlb⟩ := H0.out
        refine (at_any A n c la k wr (ha.new HO.out.2.2) (by omega)).mono ?_
        rw [HPR.out.1]
        rintro e w1 ⟨rfl, rfl⟩
        clear ha hb hNa hNb hla hlb
        go_wp2_with fail
        obtain ⟨ha, hb, hNa, hNb, hla, hlb⟩ := H0.out
        refine (at_any A' n' c' lb k wr (hb.new HO.out.2.2) (by omega)).mono ?_
        rw [HPR.out.2]
        rintro e w1 ⟨rfl, rfl⟩
        clear ha hb hNa hNb hla hlb
        obtain ⟨v, hv⟩ : ∃ v, p + r + cr = v := ⟨_, rfl⟩
        have hvi : (p : Int) + (r : Int) + (cr : Int) = (v : Int) := by omega
        have hvb : v ≤ 19999 := by omega
        have HV := Lib.hid hv
        clear hv
        go_wp2_with (at_builtin; refine wpList_app elemInts rfl _ _ rfl rfl (HO.out.2.1.alloc _) rfl (Rd.lit (nv .i64 [v % 10000]) rfl) (nv_one _) (by simp only [maxLen]; omega) (by omega) (by have := HO.out.2.2.size; simp; omega) ?_; intro R' d' w1 hown hg hat; have HA := Lib.hid (And.intro hown hg); clear hown hg hat)
        go_roundw
        case rel =>
          obtain ⟨hown, hg⟩ := HA.out
          rw [← nv_append] at hown
          have hN := HN.out
          rw [HV.out] at hN
          refine ⟨k + 1, v / 10000, R', d', o ++ [v % 10000], rfl, by go_num, by go_num, by omega, by omega, hN, hown, ?_⟩
          exact (HO.out.2.2.alloc _).grown hg (fun k hk hlt => by have := own_blk_le HO.out.2.1 hk; omega)
        case measure => simp [intOf]; omega
      · have g1 : decide ((k : Int) < (n : Int)) = false := by simp; omega
        have g1' : decide (k < n) = false := by simp; omega
        have g2 : decide ((k : Int) < (n' : Int)) = true := by simp; omega
        have g2' : decide (k < n') = true := by simp; omega
        go_wp2_with fail
        obtain ⟨ha, hb, hNa, hNb, hla, hlb⟩ := H0.out
        refine (at_any A n c la k wr (ha.new HO.out.2.2) (by omega)).mono ?_
        rw [HPR.out.1]
        rintro e w1 ⟨rfl, rfl⟩
        clear ha hb hNa hNb hla hlb
        go_wp2_with fail
        obtain ⟨ha, hb, hNa, hNb, hla, hlb⟩ := H0.out
        refine (at_any A' n' c' lb k wr (hb.new HO.out.2.2) (by omega)).mono ?_
        rw [HPR.out.2]
        rintro e w1 ⟨rfl, rfl⟩
        clear ha hb hNa hNb hla hlb
        obtain ⟨v, hv⟩ : ∃ v, p + r + cr = v := ⟨_, rfl⟩
        have hvi : (p : Int) + (r : Int) + (cr : Int) = (v : Int) := by omega
        have hvb : v ≤ 19999 := by omega
        have HV := Lib.hid hv
        clear hv
        go_wp2_with (at_builtin; refine wpList_app elemInts rfl _ _ rfl rfl (HO.out.2.1.alloc _) rfl (Rd.lit (nv .i64 [v % 10000]) rfl) (nv_one _) (by simp only [maxLen]; omega) (by omega) (by have := HO.out.2.2.size; simp; omega) ?_; intro R' d' w1 hown hg hat; have HA := Lib.hid (And.intro hown hg); clear hown hg hat)
        go_roundw
        case rel =>
          obtain ⟨hown, hg⟩ := HA.out
          rw [← nv_append] at hown
          have hN := HN.out
          rw [HV.out] at hN
          refine ⟨k + 1, v / 10000, R', d', o ++ [v % 10000], rfl, by go_num, by go_num, by omega, by omega, hN, hown, ?_⟩
          exact (HO.out.2.2.alloc _).grown hg (fun k hk hlt => by have := own_blk_le HO.out.2.1 hk; omega)
        case measure => simp [intOf]; omega
      · have g3 : decide ((0 : Int) < (cr : Int)) = true := by simp; omega
        have g3' : 0 < cr := by omega
        clear h3
        have g1 : decide ((k : Int) < (n : Int)) = false := by simp; omega
        have g1' : decide (k < n) = false := by simp; omega
        have g2 : decide ((k : Int) < (n' : Int)) = false := by simp; omega
        have g2' : decide (k < n') = false := by simp; omega
        go_wp2_with fail
        obtain ⟨ha, hb, hNa, hNb, hla, hlb⟩ := H0.out
        refine (at_any A n c la k wr (ha.new HO.out.2.2) (by omega)).mono ?_
        rw [HPR.out.1]
        rintro e w1 ⟨rfl, rfl⟩
        clear ha hb hNa hNb hla hlb
        go_wp2_with fail
        obtain ⟨ha, hb, hNa, hNb, hla, hlb⟩ := H0.out
        refine (at_any A' n' c' lb k wr (hb.new HO.out.2.2) (by omega)).mono ?_
        rw [HPR.out.2]
        rintro e w1 ⟨rfl, rfl⟩
        clear ha hb hNa hNb hla hlb
        obtain ⟨v, hv⟩ : ∃ v, p + r + cr = v := ⟨_, rfl⟩
        have hvi : (p : Int) + (r : Int) + (cr : Int) = (v : Int) := by omega
        have hvb : v ≤ 19999 := by omega
        have HV := Lib.hid hv
        clear hv
        go_wp2_with (at_builtin; refine wpList_app elemInts rfl _ _ rfl rfl (HO.out.2.1.alloc _) rfl (Rd.lit (nv .i64 [v % 10000]) rfl) (nv_one _) (by simp only [maxLen]; omega) (by omega) (by have := HO.out.2.2.size; simp; omega) ?_; intro R' d' w1 hown hg hat; have HA := Lib.hid (And.intro hown hg); clear hown hg hat)
        go_roundw
        case rel =>
          obtain ⟨hown, hg⟩ := HA.out
          rw [← nv_append] at hown
          have hN := HN.out
          rw [HV.out] at hN
          refine ⟨k + 1, v / 10000, R', d', o ++ [v % 10000], rfl, by go_num, by go_num, by omega, by omega, hN, hown, ?_⟩
          exact (HO.out.2.2.alloc _).grown hg (fun k hk hlt => by have := own_blk_le HO.out.2.1 hk; omega)
        case measure => simp [intOf]; omega
    · obtain rfl : cr = 0 := by omega
      have g1 : decide ((k : Int) < (n : Int)) = false := by simp; omega
      have g1' : decide (k < n) = false := by simp; omega
      have g2 : decide ((k : Int) < (n' : Int)) = false := by simp; omega
      have g2' : decide (k < n') = false := by simp; omega
      have h1 : n ≤ k := by omega
      have h2 : n' ≤ k := by omega
      clear hgo
      go_wp2
      go_ret
      obtain ⟨hA, ho, hn⟩ := HO.out
      obtain ⟨ha, hb, hNa, hNb, hla, hlb⟩ := H0.out
      refine ⟨R, k, d, rfl, ⟨o, ho, hA.digs, ?_⟩, hn⟩
      rw [hA.done (by omega) (by omega), hNa.val, hNb.val]
end Go.Proofs.Ytgofjkppeobjfaa

namespace Go.Proofs.Ytgofjkppeobjfaa
set_option linter.unusedVariables false
open Go.RowKit Go.Mem Go.Dig

set_option maxRecDepth 100000 in
set_option maxHeartbeats 2000000 in
theorem minus_any (A : Option Addr) (n c : Nat) (A' : Option Addr) (n' c' : Nat) (x y : Nat) (w : World) (hx : DM w A n c x) (hy : DM w A' n' c' y) (hle : y ≤ x) (hn : n ≤ 1000000) :
    Calls Try.prog 64 #[.slice A n c, .slice A' n' c'] w fun e w' => ∃ R k d, e = .returned (.slice R k d) ∧ OM w' w.heap.size R k d (x - y) ∧ New w w' := by
  obtain ⟨la, ha, hc1, hc2, hNa⟩ := hx
  obtain ⟨lb, hb, hd1, hd2, hNb⟩ := hy
  have hla : la.length = n := by have := ha.len; rwa [nv_length] at this
  have hlb : lb.length = n' := by have := hb.len; rwa [nv_length] at this
  have hn' : n' ≤ n := by
    rcases Nat.lt_or_ge n n' with h | h
    · have := hNa.len_lt (by omega) hNb (by omega); omega
    · exact h
  have H0 := Lib.hid (And.intro ha (And.intro hb (And.intro hNa (And.intro hNb (And.intro hla (And.intro hlb hle))))))
  clear ha hb hNa hNb hla hlb hle
  go_enter Try.func64, Try.ntmps64
  go_wp2
  go_loopw [5, 6, 7] (fun v u i wr => ∃ k br : Nat, ∃ R d o, v = .slice R k d ∧ u = .int .i64 br ∧ i = .int .i64 k ∧ br ≤ 1 ∧ k ≤ n ∧ Hid (SubI 10000 la lb k o br ∧ wr.ownsRow w.heap.size 3 1 (.slice R k d) k (nv .i64 o) ∧ New w wr)) (fun _ _ i _ => n - (intOf i).toNat)
  case atStart => exact ⟨0, 0, none, 0, [], rfl, rfl, rfl, by omega, by omega, SubI.start _ _ _, World.ownsRow_nil _ _ _ _, Chg.refl _ _⟩
  case round =>
    obtain ⟨k, br, R, d, o, rfl, rfl, rfl, hbr, hk, HO⟩ := hrel
    by_cases hlt : k < n
    · have hda : dg la k < 10000 := dg_lt H0.out.2.2.1.digs (by omega) k
      have hdb : dg lb k < 10000 := dg_lt H0.out.2.2.2.1.digs (by omega) k
      have hst := fun v r' => HO.out.1.step (v := v) (r' := r') (by omega) H0.out.2.2.1.digs H0.out.2.2.2.1.digs
      obtain ⟨p, hp⟩ : ∃ p, dg la k = p := ⟨_, rfl⟩
      obtain ⟨r, hr⟩ : ∃ r, dg lb k = r := ⟨_, rfl⟩
      rw [hp] at hda hst
      rw [hr] at hdb hst
      have HPR := Lib.hid (And.intro hp (And.intro hr hst))
      clear hp hr hst
      have hlti : (k : Int) < (n : Int) := by omega
      go_wp2_with fail
      obtain ⟨ha, hb, hNa, hNb, hla, hlb, hle⟩ := H0.out
      refine (at_any A n c la k wr (ha.new HO.out.2.2) (by omega)).mono ?_
      rw [HPR.out.1]
      rintro e w1 ⟨rfl, rfl⟩
      clear ha hb hNa hNb hla hlb hle
      go_wp2_with fail
      obtain ⟨ha, hb, hNa, hNb, hla, hlb, hle⟩ := H0.out
      refine (at_any A' n' c' lb k wr (hb.new HO.out.2.2) (by omega)).mono ?_
      rw [HPR.out.2.1]
      rintro e w1 ⟨rfl, rfl⟩
      clear ha hb hNa hNb hla hlb hle
      by_cases hng : p < r + br
      · obtain ⟨v, hv⟩ : ∃ v, p + 10000 - r - br = v := ⟨_, rfl⟩
        have hvi : (p : Int) - (r : Int) - (br : Int) + 10000 = (v : Int) := by omega
        have hneg : (p : Int) - (r : Int) - (br : Int) < 0 := by omega
        have HN := Lib.hid (HPR.out.2.2 v 1 (by omega) (by omega) (by omega))
        clear hv HPR
        go_wp2_with (at_builtin; refine wpList_app elemInts rfl _ _ rfl rfl (HO.out.2.1.alloc _) rfl (Rd.lit (nv .i64 [v]) rfl) (nv_one _) (by simp only [maxLen]; omega) (by omega) (by have := HO.out.2.2.size; simp; omega) ?_; intro R' d' w1 hown hg hat; have HA := Lib.hid (And.intro hown hg); clear hown hg hat)
        go_roundw
        case rel =>
          obtain ⟨hown, hg⟩ := HA.out
          rw [← nv_append] at hown
          refine ⟨k + 1, 1, R', d', o ++ [v], rfl, rfl, by go_num, by omega, by omega, HN.out, hown, ?_⟩
          exact (HO.out.2.2.alloc _).grown hg (fun k hk hlt => by have := own_blk_le HO.out.2.1 hk; omega)
        case measure => simp [intOf]; omega
      · obtain ⟨v, hv⟩ : ∃ v, p - r - br = v := ⟨_, rfl⟩
        have hvi : (p : Int) - (r : Int) - (br : Int) = (v : Int) := by omega
        have hneg : decide ((v : Int) < 0) = false := by simp
        have HN := Lib.hid (HPR.out.2.2 v 0 (by omega) (by omega) (by omega))
        clear hv HPR
        go_wp2_with (at_builtin; refine wpList_app elemInts rfl _ _ rfl rfl (HO.out.2.1.alloc _) rfl (Rd.lit (nv .i64 [v]) rfl) (nv_one _) (by simp only [maxLen]; omega) (by omega) (by have := HO.out.2.2.size; simp; omega) ?_; intro R' d' w1 hown hg hat; have HA := Lib.hid (And.intro hown hg); clear hown hg hat)
        go_roundw
        case rel =>
          obtain ⟨hown, hg⟩ := HA.out
          rw [← nv_append] at hown
          refine ⟨k + 1, 0, R', d', o ++ [v], rfl, rfl, by go_num, by omega, by omega, HN.out, hown, ?_⟩
          exact (HO.out.2.2.alloc _).grown hg (fun k hk hlt => by have := own_blk_le HO.out.2.1 hk; omega)
        case measure => simp [intOf]; omega
    · obtain rfl : n = k := by omega
      go_wp2
      go_ret
      obtain ⟨hA, ho, hn⟩ := HO.out
      obtain ⟨ha, hb, hNa, hNb, hla, hlb, hle⟩ := H0.out
      refine ⟨R, n, d, rfl, ⟨o, ho, hA.digs, ?_⟩, hn⟩
      subst hla
      rw [hA.done (by omega) (by omega) (by rw [hNa.val, hNb.val]; exact hle), hNa.val, hNb.val]
end Go.Proofs.Ytgofjkppeobjfaa

namespace Go.Proofs.Ytgofjkppeobjfaa
set_option linter.unusedVariables false
open Go.RowKit Go.Mem Go.Dig

set_option maxHeartbeats 400000 in
theorem rneg_any (v : Value) (x : Int) (w : World) (hx : RN w v x) :
    Calls Try.prog 65 #[v] w fun e w' => ∃ v, e = .returned v ∧ RN w' v (-x) ∧ New w w' := by
  obtain ⟨s, A, n, c, rfl, hs, l, hr, hnc, hcm, hN⟩ := hx
  have H := Lib.hid (And.intro hs (And.intro hr hN))
  clear hs hr hN
  go_enter Try.func65, Try.ntmps65
  go_wp2_with fail
  obtain ⟨hs, hr, hN⟩ := H.out
  have hb0 := Blk.new (w.alloc (.cells #[.bool s, .slice A n c] 64)) 64 #[.bool false, .slice none 0 0]
  rw [World.size_alloc] at hb0
  have hn0 : New w ((w.alloc (.cells #[.bool s, .slice A n c] 64)).alloc (.cells #[.bool false, .slice none 0 0] 64)) := ((Chg.refl _ w).alloc _).alloc _
  refine (normal_rn (!s) A n c l _ (hr.new hn0) hN.digs hnc hcm).mono ?_
  rintro e w1 ⟨v, rfl, hwi, hn1⟩
  have hval : sg (!s) (val 10000 l) = -x := by
    rw [hN.val, hs]
    unfold sg
    by_cases h : x < 0 <;> simp [h] <;> omega
  rw [hval] at hwi
  have hb1 := hb0.chg hn1 (fun h => h)
  obtain ⟨s', A', n', c', rfl, hs', hwm⟩ := hwi
  have hc0 := hb1.cell 0 rfl
  have hc1 := hb1.cell 1 rfl
  have hf0 := hb1.frozen 0
  have hf1 := hb1.frozen 1
  have H1 := Lib.hid (And.intro hb1 (And.intro (hn0.new hn1) (And.intro hs' hwm)))
  clear hb0 hn0 hn1 hb1 hs' hwm H hs hr hN hval
  go_wp2
  obtain ⟨hb1, hn1, hs, hwm⟩ := H1.out
  refine bodyPost_ret (res_c rfl _ rfl (aggN.load (hb1.set2 _ _))) rfl ⟨_, rfl, ⟨s', A', n', c', rfl, hs, ?_⟩, ?_⟩
  · exact hwm.store hb1 (noInt_two' _ _ _ _) (Chg.at2 _ _ _ _)
  · exact Chg.owned hn1 (Chg.at2 _ _ _ _) (fun k e => by omega)

theorem normal_om (s : Bool) (R : Option Addr) (k d b m : Nat) (w : World) (h : Hid (OM w b R k d m)) :
    Calls Try.prog 45 #[.bool s, .slice R k d] w fun e w' => ∃ s' A' n' c', e = .returned (.agg #[.bool s', .slice A' n' c']) ∧ Hid (s' = decide (sg s m < 0) ∧ DM w' A' n' c' (sg s m).natAbs) ∧ Hid (New w w') := by
  obtain ⟨l, ho, hd, hv⟩ := h.out
  have hcap := own_cap ho
  refine (normal_rn s R k d l w (Rd.of_own ho) hd hcap.1 hcap.2).mono ?_
  rintro e w' ⟨v, rfl, ⟨s', A', n', c', rfl, h1, h2⟩, hn⟩
  rw [hv] at h1 h2
  exact ⟨s', A', n', c', rfl, ⟨h1, h2⟩, hn⟩

set_option maxRecDepth 100000 in
set_option maxHeartbeats 2000000 in
theorem radd_same (s : Bool) (A : Option Addr) (n c : Nat) (A' : Option Addr) (n' c' : Nat) (x y : Nat) (w : World) (hx : DM w A n c x) (hy : DM w A' n' c' y) (hn : n ≤ 1000000) (hn' : n' ≤ 1000000) :
    Calls Try.prog 63 #[.agg #[.bool s, .slice A n c], .agg #[.bool s, .slice A' n' c']] w fun e w' => ∃ v, e = .returned v ∧ RN w' v (sg s (x + y)) ∧ New w w' := by
  have H0 := Lib.hid (And.intro hx hy)
  clear hx hy
  go_enter Try.func63, Try.ntmps63
  go_wp2_with fail
  refine Code.new3 ?_
  intro W hb1 hb2 hb3 hnW hzW
  have hc10 := hb1.cell 0 (u := .bool s) rfl
  have hc11 := hb1.cell 1 (u := .slice A n c) rfl
  have hc21 := hb2.cell 1 (u := .slice A' n' c') rfl
  have hc30 := hb3.cell 0 (u := .bool false) rfl
  have hc31 := hb3.cell 1 (u := .slice none 0 0) rfl
  have hf30 := hb3.frozen 0
  have hf31 := hb3.frozen 1
  have hplus : ∀ W', New W W' → Calls Try.prog 78 #[.slice A n c, .slice A' n' c'] W' fun e w' => ∃ R k d, e = .returned (.slice R k d) ∧ Hid (OM w' W'.heap.size R k d (x + y)) ∧ Hid (New W w') := fun W' h =>
    (plus_any A n c A' n' c' x y W' (H0.out.1.new (hnW.new h)) (H0.out.2.new (hnW.new h)) hn hn').mono fun e w' ⟨R, k, d, h1, h2, h3⟩ => ⟨R, k, d, h1, h2, h.new h3⟩
  have HP := Lib.hid hplus
  have HB := Lib.hid (And.intro hb1 (And.intro hb2 (And.intro hb3 hnW)))
  clear hplus hb1 hb2 hb3 hnW
  go_region_held3 (fun w' => w'.cell? ⟨w.heap.size, 0, none⟩ = some (.bool s) ∧ w'.cell? ⟨w.heap.size, 1, none⟩ = some (.slice A n c) ∧ w'.cell? ⟨w.heap.size + 1, 1, none⟩ = some (.slice A' n' c')) (first | exact ⟨by assumption, by assumption, by assumption⟩ | exact ⟨far2 he10 (by dsimp only; omega) _ _, far2 he11 (by dsimp only; omega) _ _, far2 he21 (by dsimp only; omega) _ _⟩)
    (first
      | (go_at_call 78; refine (HP.out _ ?_).mono ?_; exact (Chg.refl _ _).drew; rintro e w5 ⟨R, k, d, rfl, HO5, HN5⟩; have hd10 := HN5.out.cell hc10 (fun h => h); have hd11 := HN5.out.cell hc11 (fun h => h); have hd21 := HN5.out.cell hc21 (fun h => h); have hd30 := HN5.out.cell hc30 (fun h => h); have hd31 := HN5.out.cell hc31 (fun h => h); have hg30 := (HB.out.2.2.1.chg HN5.out (fun h => h)).frozen 0; have hg31 := (HB.out.2.2.1.chg HN5.out (fun h => h)).frozen 1)
      | (go_at_call 45; refine (normal_om s R k d _ _ _ HO5).mono ?_; rintro e w6 ⟨s6, A6, n6, c6, rfl, H6, HN6⟩; have he10 := HN6.out.cell hd10 (fun h => h); have he11 := HN6.out.cell hd11 (fun h => h); have he21 := HN6.out.cell hd21 (fun h => h); have he30 := HN6.out.cell hd30 (fun h => h); have he31 := HN6.out.cell hd31 (fun h => h); have hh30 := ((HB.out.2.2.1.chg HN5.out (fun h => h)).chg HN6.out (fun h => h)).frozen 0; have hh31 := ((HB.out.2.2.1.chg HN5.out (fun h => h)).chg HN6.out (fun h => h)).frozen 1))
  all_goals
    clear hc10 hc11 hc21 hc30 hc31 hf30 hf31 hd10 hd11 hd21 hd30 hd31 hg30 hg31
    go_wp2
    obtain ⟨hs6, hm6⟩ := H6.out
    have hb6 := (HB.out.2.2.1.chg HN5.out (fun h => h)).chg HN6.out (fun h => h)
    refine bodyPost_ret (res_c rfl _ rfl (aggN.load (hb6.set2 _ _))) rfl ⟨_, rfl, ⟨s6, A6, n6, c6, rfl, hs6, hm6.store hb6 (noInt_two' _ _ _ _) (Chg.at2 _ _ _ _)⟩, ?_⟩
    exact Chg.owned (HB.out.2.2.2.new (HN5.out.new HN6.out)) (Chg.at2 _ _ _ _) (fun k e => by omega)

set_option maxRecDepth 100000 in
set_option maxHeartbeats 2000000 in
theorem radd_lt (s s' : Bool) (hss : (s == s') = false) (A : Option Addr) (n c : Nat) (A' : Option Addr) (n' c' : Nat) (x y : Nat) (w : World) (hx : DM w A n c x) (hy : DM w A' n' c' y) (hn : n ≤ 1000000) (hn' : n' ≤ 1000000) (hlt : x < y) :
    Calls Try.prog 63 #[.agg #[.bool s, .slice A n c], .agg #[.bool s', .slice A' n' c']] w fun e w' => ∃ v, e = .returned v ∧ RN w' v (sg s' (y - x : Nat)) ∧ New w w' := by
  have H0 := Lib.hid (And.intro hx hy)
  clear hx hy
  go_enter Try.func63, Try.ntmps63
  go_wp2_with fail
  refine Calls.new3 ?_
  intro W0 hb1 hb2 hb3 hnW hzW
  refine (compared_any A n c A' n' c' x y W0 (H0.out.1.new hnW) (H0.out.2.new hnW)).mono ?_
  rintro e W ⟨rfl, q, hq⟩
  rw [cmpI_lt (show (x : Int) < (y : Int) by omega)]
  have hneg : decide ((-1 : Int) < 0) = true := by decide
  have hnq : New W0 W := by rw [hq]; exact (Chg.refl _ _).drewN q
  replace hb1 := hb1.chg hnq (fun h => h)
  replace hb2 := hb2.chg hnq (fun h => h)
  replace hb3 := hb3.chg hnq (fun h => h)
  replace hnW := hnW.new hnq
  have hc20 := hb2.cell 0 (u := .bool s') rfl
  have hc21 := hb2.cell 1 (u := .slice A' n' c') rfl
  have hc11 := hb1.cell 1 (u := .slice A n c) rfl
  have hc30 := hb3.cell 0 (u := .bool false) rfl
  have hc31 := hb3.cell 1 (u := .slice none 0 0) rfl
  have hf30 := hb3.frozen 0
  have hf31 := hb3.frozen 1
  have hmin : ∀ W', New W W' → Calls Try.prog 64 #[.slice A' n' c', .slice A n c] W' fun e w' => ∃ R k d, e = .returned (.slice R k d) ∧ Hid (OM w' W'.heap.size R k d (y - x)) ∧ Hid (New W w') := fun W' h =>
    (minus_any A' n' c' A n c y x W' (H0.out.2.new (hnW.new h)) (H0.out.1.new (hnW.new h)) (by omega) hn').mono fun e w' ⟨R, k, d, h1, h2, h3⟩ => ⟨R, k, d, h1, h2, h.new h3⟩
  have HP := Lib.hid hmin
  have HB := Lib.hid (And.intro hb1 (And.intro hb2 (And.intro hb3 hnW)))
  clear hmin hb1 hb2 hb3 hnW hq hnq hzW
  go_wp2_with fail
  go_region_held3 (fun w' => w'.cell? ⟨w.heap.size + 1, 0, none⟩ = some (.bool s') ∧ w'.cell? ⟨w.heap.size + 1, 1, none⟩ = some (.slice A' n' c') ∧ w'.cell? ⟨w.heap.size, 1, none⟩ = some (.slice A n c)) (first | exact ⟨by assumption, by assumption, by assumption⟩ | exact ⟨far2 he20 (by dsimp only; omega) _ _, far2 he21 (by dsimp only; omega) _ _, far2 he11 (by dsimp only; omega) _ _⟩)
    (first
      | (go_at_call 64; refine (HP.out _ ?_).mono ?_; exact (Chg.refl _ _).drew; rintro e w5 ⟨R, k, d, rfl, HO5, HN5⟩; have hd20 := HN5.out.cell hc20 (fun h => h); have hd21 := HN5.out.cell hc21 (fun h => h); have hd11 := HN5.out.cell hc11 (fun h => h); have hd30 := HN5.out.cell hc30 (fun h => h); have hd31 := HN5.out.cell hc31 (fun h => h); have hg30 := (HB.out.2.2.1.chg HN5.out (fun h => h)).frozen 0; have hg31 := (HB.out.2.2.1.chg HN5.out (fun h => h)).frozen 1)
      | (go_at_call 45; refine (normal_om s' R k d _ _ _ HO5).mono ?_; rintro e w6 ⟨s6, A6, n6, c6, rfl, H6, HN6⟩; have he20 := HN6.out.cell hd20 (fun h => h); have he21 := HN6.out.cell hd21 (fun h => h); have he11 := HN6.out.cell hd11 (fun h => h); have he30 := HN6.out.cell hd30 (fun h => h); have he31 := HN6.out.cell hd31 (fun h => h); have hh30 := ((HB.out.2.2.1.chg HN5.out (fun h => h)).chg HN6.out (fun h => h)).frozen 0; have hh31 := ((HB.out.2.2.1.chg HN5.out (fun h => h)).chg HN6.out (fun h => h)).frozen 1))
  all_goals
    clear hc20 hc21 hc11 hc30 hc31 hf30 hf31 hd20 hd21 hd11 hd30 hd31 hg30 hg31
    go_wp2
    obtain ⟨hs6, hm6⟩ := H6.out
    have hb6 := (HB.out.2.2.1.chg HN5.out (fun h => h)).chg HN6.out (fun h => h)
    refine bodyPost_ret (res_c rfl _ rfl (aggN.load (hb6.set2 _ _))) rfl ⟨_, rfl, ⟨s6, A6, n6, c6, rfl, hs6, hm6.store hb6 (noInt_two' _ _ _ _) (Chg.at2 _ _ _ _)⟩, ?_⟩
    exact Chg.owned (HB.out.2.2.2.new (HN5.out.new HN6.out)) (Chg.at2 _ _ _ _) (fun k e => by omega)

set_option maxRecDepth 100000 in
set_option maxHeartbeats 2000000 in
theorem radd_ge (s s' : Bool) (hss : (s == s') = false) (A : Option Addr) (n c : Nat) (A' : Option Addr) (n' c' : Nat) (x y : Nat) (w : World) (hx : DM w A n c x) (hy : DM w A' n' c' y) (hn : n ≤ 1000000) (hn' : n' ≤ 1000000) (hlt : y ≤ x) :
    Calls Try.prog 63 #[.agg #[.bool s, .slice A n c], .agg #[.bool s', .slice A' n' c']] w fun e w' => ∃ v, e = .returned v ∧ RN w' v (sg s (x - y : Nat)) ∧ New w w' := by
  have H0 := Lib.hid (And.intro hx hy)
  clear hx hy
  go_enter Try.func63, Try.ntmps63
  go_wp2_with fail
  refine Calls.new3 ?_
  intro W0 hb1 hb2 hb3 hnW hzW
  refine (compared_any A n c A' n' c' x y W0 (H0.out.1.new hnW) (H0.out.2.new hnW)).mono ?_
  rintro e W ⟨rfl, q, hq⟩
  have hcv : decide (cmpI (x : Int) (y : Int) < 0) = false := by
    unfold cmpI
    rw [if_neg (by omega)]
    split <;> decide
  generalize cmpI (x : Int) (y : Int) = cv at *
  have hnq : New W0 W := by rw [hq]; exact (Chg.refl _ _).drewN q
  replace hb1 := hb1.chg hnq (fun h => h)
  replace hb2 := hb2.chg hnq (fun h => h)
  replace hb3 := hb3.chg hnq (fun h => h)
  replace hnW := hnW.new hnq
  have hc10 := hb1.cell 0 (u := .bool s) rfl
  have hc11 := hb1.cell 1 (u := .slice A n c) rfl
  have hc21 := hb2.cell 1 (u := .slice A' n' c') rfl
  have hc30 := hb3.cell 0 (u := .bool false) rfl
  have hc31 := hb3.cell 1 (u := .slice none 0 0) rfl
  have hf30 := hb3.frozen 0
  have hf31 := hb3.frozen 1
  have hmin : ∀ W', New W W' → Calls Try.prog 64 #[.slice A n c, .slice A' n' c'] W' fun e w' => ∃ R k d, e = .returned (.slice R k d) ∧ Hid (OM w' W'.heap.size R k d (x - y)) ∧ Hid (New W w') := fun W' h =>
    (minus_any A n c A' n' c' x y W' (H0.out.1.new (hnW.new h)) (H0.out.2.new (hnW.new h)) (by omega) hn).mono fun e w' ⟨R, k, d, h1, h2, h3⟩ => ⟨R, k, d, h1, h2, h.new h3⟩
  have HP := Lib.hid hmin
  have HB := Lib.hid (And.intro hb1 (And.intro hb2 (And.intro hb3 hnW)))
  clear hmin hb1 hb2 hb3 hnW hq hnq hzW
  go_wp2_with fail
  go_region_held3 (fun w' => w'.cell? ⟨w.heap.size, 0, none⟩ = some (.bool s) ∧ w'.cell? ⟨w.heap.size, 1, none⟩ = some (.slice A n c) ∧ w'.cell? ⟨w.heap.size + 1, 1, none⟩ = some (.slice A' n' c')) (first | exact ⟨by assumption, by assumption, by assumption⟩ | exact ⟨far2 he10 (by dsimp only; omega) _ _, far2 he11 (by dsimp only; omega) _ _, far2 he21 (by dsimp only; omega) _ _⟩)
    (first
      | (go_at_call 64; refine (HP.out _ ?_).mono ?_; exact (Chg.refl _ _).drew; rintro e w5 ⟨R, k, d, rfl, HO5, HN5⟩; have hd10 := HN5.out.cell hc10 (fun h => h); have hd11 := HN5.out.cell hc11 (fun h => h); have hd21 := HN5.out.cell hc21 (fun h => h); have hd30 := HN5.out.cell hc30 (fun h => h); have hd31 := HN5.out.cell hc31 (fun h => h); have hg30 := (HB.out.2.2.1.chg HN5.out (fun h => h)).frozen 0; have hg31 := (HB.out.2.2.1.chg HN5.out (fun h => h)).frozen 1)
      | (go_at_call 45; refine (normal_om s R k d _ _ _ HO5).mono ?_; rintro e w6 ⟨s6, A6, n6, c6, rfl, H6, HN6⟩; have he10 := HN6.out.cell hd10 (fun h => h); have he11 := HN6.out.cell hd11 (fun h => h); have he21 := HN6.out.cell hd21 (fun h => h); have he30 := HN6.out.cell hd30 (fun h => h); have he31 := HN6.out.cell hd31 (fun h => h); have hh30 := ((HB.out.2.2.1.chg HN5.out (fun h => h)).chg HN6.out (fun h => h)).frozen 0; have hh31 := ((HB.out.2.2.1.chg HN5.out (fun h => h)).chg HN6.out (fun h => h)).frozen 1))
  all_goals
    clear hc10 hc11 hc21 hc30 hc31 hf30 hf31 hd10 hd11 hd21 hd30 hd31 hg30 hg31
    go_wp2
    obtain ⟨hs6, hm6⟩ := H6.out
    have hb6 := (HB.out.2.2.1.chg HN5.out (fun h => h)).chg HN6.out (fun h => h)
    refine bodyPost_ret (res_c rfl _ rfl (aggN.load (hb6.set2 _ _))) rfl ⟨_, rfl, ⟨s6, A6, n6, c6, rfl, hs6, hm6.store hb6 (noInt_two' _ _ _ _) (Chg.at2 _ _ _ _)⟩, ?_⟩
    exact Chg.owned (HB.out.2.2.2.new (HN5.out.new HN6.out)) (Chg.at2 _ _ _ _) (fun k e => by omega)

theorem bz_len {w : World} {A : Option Addr} {n c : Nat} {z : Int} (h : DM w A n c z.natAbs) {k : Nat} (hk : z.natAbs < 2 ^ k) : n ≤ k :=
  h.len (Nat.lt_of_lt_of_le hk (Nat.pow_le_pow_left (by omega) k))
theorem radd_any (v v' : Value) (x y : Int) (w : World) (hx : RN w v x) (hy : RN w v' y) (bx : x.natAbs < 2 ^ 1000000) (bY : y.natAbs < 2 ^ 1000000) :
    Calls Try.prog 63 #[v, v'] w fun e w' => ∃ v, e = .returned v ∧ RN w' v (x + y) ∧ New w w' := by
  obtain ⟨s, A, n, c, rfl, hs, hm⟩ := hx
  obtain ⟨s', A', n', c', rfl, hs', hm'⟩ := hy
  have hn := bz_len hm bx
  have hn' := bz_len hm' bY
  clear bx bY
  by_cases hss : s = s'
  · subst hss
    refine (radd_same s A n c A' n' c' _ _ w hm hm' hn hn').mono ?_
    rintro e w1 ⟨v1, rfl, h1, h2⟩
    have e1 : sg s (x.natAbs + y.natAbs) = x + y := by
      unfold sg
      cases s
      · have : ¬ x < 0 := by simpa using hs.symm
        have : ¬ y < 0 := by simpa using hs'.symm
        simp; omega
      · have : x < 0 := by simpa using hs.symm
        have : y < 0 := by simpa using hs'.symm
        simp; omega
    rw [e1] at h1
    exact ⟨v1, rfl, h1, h2⟩
  · have hb : (s == s') = false := by simp [hss]
    have hsg : (s = true ∧ s' = false ∧ x < 0 ∧ ¬ y < 0) ∨ (s = false ∧ s' = true ∧ ¬ x < 0 ∧ y < 0) := by
      cases s <;> cases s'
      · exact absurd rfl hss
      · exact .inr ⟨rfl, rfl, by simpa using hs.symm, by simpa using hs'.symm⟩
      · exact .inl ⟨rfl, rfl, by simpa using hs.symm, by simpa using hs'.symm⟩
      · exact absurd rfl hss
    rcases Nat.lt_or_ge x.natAbs y.natAbs with hlt | hlt
    · refine (radd_lt s s' hb A n c A' n' c' _ _ w hm hm' hn hn' hlt).mono ?_
      rintro e w1 ⟨v1, rfl, h1, h2⟩
      have e1 : sg s' (y.natAbs - x.natAbs : Nat) = x + y := by
        unfold sg
        rcases hsg with ⟨_, rfl, h3, h4⟩ | ⟨_, rfl, h3, h4⟩ <;> simp <;> omega
      rw [e1] at h1
      exact ⟨v1, rfl, h1, h2⟩
    · refine (radd_ge s s' hb A n c A' n' c' _ _ w hm hm' hn hn' hlt).mono ?_
      rintro e w1 ⟨v1, rfl, h1, h2⟩
      have e1 : sg s (x.natAbs - y.natAbs : Nat) = x + y := by
        unfold sg
        rcases hsg with ⟨rfl, _, h3, h4⟩ | ⟨rfl, _, h3, h4⟩ <;> simp <;> omega
      rw [e1] at h1
      exact ⟨v1, rfl, h1, h2⟩

set_option maxRecDepth 100000 in
set_option maxHeartbeats 2000000 in
theorem rsub_any (v v' : Value) (x y : Int) (w : World) (hx : RN w v x) (hy : RN w v' y) (bx : x.natAbs < 2 ^ 1000000) (bY : y.natAbs < 2 ^ 1000000) :
    Calls Try.prog 42 #[v, v'] w fun e w' => ∃ v, e = .returned v ∧ RN w' v (x - y) ∧ New w w' := by
  obtain ⟨s, A, n, c, rfl, hs, hm⟩ := hx
  obtain ⟨s', A', n', c', rfl, hs', hm'⟩ := hy
  have H0 := Lib.hid (And.intro hs (And.intro hm (And.intro hs' (And.intro hm' (And.intro bx bY)))))
  clear hs hm hs' hm' bx bY
  go_enter Try.func42, Try.ntmps42
  go_wp2_with fail
  refine Code.new3 ?_
  intro W hb1 hb2 hb3 hnW hzW
  have hc10 := hb1.cell 0 (u := .bool s) rfl
  have hc11 := hb1.cell 1 (u := .slice A n c) rfl
  have hc20 := hb2.cell 0 (u := .bool s') rfl
  have hc21 := hb2.cell 1 (u := .slice A' n' c') rfl
  have hc30 := hb3.cell 0 (u := .bool false) rfl
  have hc31 := hb3.cell 1 (u := .slice none 0 0) rfl
  have hf30 := hb3.frozen 0
  have hf31 := hb3.frozen 1
  have hneg : ∀ W', New W W' → Calls Try.prog 65 #[.agg #[.bool s', .slice A' n' c']] W' fun e w' => ∃ s5 A5 n5 c5, e = .returned (.agg #[.bool s5, .slice A5 n5 c5]) ∧ Hid (s5 = decide (-y < 0) ∧ DM w' A5 n5 c5 (-y).natAbs) ∧ Hid (New W w') := fun W' h =>
    (rneg_any _ y W' ⟨s', A', n', c', rfl, H0.out.2.2.1, H0.out.2.2.2.1.new (hnW.new h)⟩).mono fun e w' ⟨v, h1, ⟨s5, A5, n5, c5, h2, h3, h4⟩, h5⟩ => ⟨s5, A5, n5, c5, by rw [h1, h2], ⟨h3, h4⟩, h.new h5⟩
  have hadd : ∀ s5 A5 n5 c5 w5, Hid (New W w5) → Hid (s5 = decide (-y < 0) ∧ DM w5 A5 n5 c5 (-y).natAbs) → Calls Try.prog 63 #[.agg #[.bool s, .slice A n c], .agg #[.bool s5, .slice A5 n5 c5]] w5 fun e w' => ∃ s6 A6 n6 c6, e = .returned (.agg #[.bool s6, .slice A6 n6 c6]) ∧ Hid (s6 = decide (x - y < 0) ∧ DM w' A6 n6 c6 (x - y).natAbs) ∧ Hid (New w5 w') := fun s5 A5 n5 c5 w5 h h' =>
    (radd_any _ _ x (-y) w5 ⟨s, A, n, c, rfl, H0.out.1, H0.out.2.1.new (hnW.new h.out)⟩ ⟨s5, A5, n5, c5, rfl, h'.out⟩ H0.out.2.2.2.2.1 (by rw [Int.natAbs_neg]; exact H0.out.2.2.2.2.2)).mono fun e w' ⟨v, h1, ⟨s6, A6, n6, c6, h2, h3, h4⟩, h5⟩ => ⟨s6, A6, n6, c6, by rw [h1, h2], ⟨h3, h4⟩, h5⟩
  have HP := Lib.hid hneg
  have HP2 := Lib.hid hadd
  have HB := Lib.hid (And.intro hb1 (And.intro hb2 (And.intro hb3 hnW)))
  clear hneg hadd hb1 hb2 hb3 hnW
  go_region_held3 (fun w' => w'.cell? ⟨w.heap.size, 0, none⟩ = some (.bool s) ∧ w'.cell? ⟨w.heap.size, 1, none⟩ = some (.slice A n c) ∧ w'.cell? ⟨w.heap.size + 1, 0, none⟩ = some (.bool s') ∧ w'.cell? ⟨w.heap.size + 1, 1, none⟩ = some (.slice A' n' c')) (first | exact ⟨by assumption, by assumption, by assumption, by assumption⟩ | exact ⟨far2 he10 (by dsimp only; omega) _ _, far2 he11 (by dsimp only; omega) _ _, far2 he20 (by dsimp only; omega) _ _, far2 he21 (by dsimp only; omega) _ _⟩)
    (first
      | (go_at_call 65; refine (HP.out _ ?_).mono ?_; exact (Chg.refl _ _).drew; rintro e w5 ⟨s5, A5, n5, c5, rfl, HO5, HN5⟩; have hd10 := HN5.out.cell hc10 (fun h => h); have hd11 := HN5.out.cell hc11 (fun h => h); have hd20 := HN5.out.cell hc20 (fun h => h); have hd21 := HN5.out.cell hc21 (fun h => h); have hd30 := HN5.out.cell hc30 (fun h => h); have hd31 := HN5.out.cell hc31 (fun h => h); have hg30 := (HB.out.2.2.1.chg HN5.out (fun h => h)).frozen 0; have hg31 := (HB.out.2.2.1.chg HN5.out (fun h => h)).frozen 1)
      | (go_at_call 63; refine (HP2.out s5 A5 n5 c5 w5 HN5 HO5).mono ?_; rintro e w6 ⟨s6, A6, n6, c6, rfl, H6, HN6⟩; have he10 := HN6.out.cell hd10 (fun h => h); have he11 := HN6.out.cell hd11 (fun h => h); have he20 := HN6.out.cell hd20 (fun h => h); have he21 := HN6.out.cell hd21 (fun h => h); have he30 := HN6.out.cell hd30 (fun h => h); have he31 := HN6.out.cell hd31 (fun h => h); have hh30 := ((HB.out.2.2.1.chg HN5.out (fun h => h)).chg HN6.out (fun h => h)).frozen 0; have hh31 := ((HB.out.2.2.1.chg HN5.out (fun h => h)).chg HN6.out (fun h => h)).frozen 1))
  all_goals
    clear hc10 hc11 hc20 hc21 hc30 hc31 hf30 hf31 hd10 hd11 hd20 hd21 hd30 hd31 hg30 hg31
    go_wp2
    obtain ⟨hs6, hm6⟩ := H6.out
    have hb6 := (HB.out.2.2.1.chg HN5.out (fun h => h)).chg HN6.out (fun h => h)
    refine bodyPost_ret (res_c rfl _ rfl (aggN.load (hb6.set2 _ _))) rfl ⟨_, rfl, ⟨s6, A6, n6, c6, rfl, hs6, hm6.store hb6 (noInt_two' _ _ _ _) (Chg.at2 _ _ _ _)⟩, ?_⟩
    exact Chg.owned (HB.out.2.2.2.new (HN5.out.new HN6.out)) (Chg.at2 _ _ _ _) (fun k e => by omega)
end Go.Proofs.Ytgofjkppeobjfaa

namespace Go.Proofs.Ytgofjkppeobjfaa
set_option linter.unusedVariables false
open Go.RowKit Go.Mem Go.Dig

set_option maxRecDepth 100000 in
set_option maxHeartbeats 4000000 in
theorem rmul_dm (s s' : Bool) (A : Option Addr) (n c : Nat) (A' : Option Addr) (n' c' : Nat) (x y : Nat) (w : World) (hx : DM w A n c x) (hy : DM w A' n' c' y) (hn : n ≤ 1000000) (hn' : n' ≤ 1000000) :
    Calls Try.prog 61 #[.agg #[.bool s, .slice A n c], .agg #[.bool s', .slice A' n' c']] w fun e w' => ∃ v, e = .returned v ∧ RN w' v (sg (s != s') (x * y : Nat)) ∧ New w w' := by
  obtain ⟨la, ha, hc1, hc2, hNa⟩ := hx
  obtain ⟨lb, hb, hd1, hd2, hNb⟩ := hy
  have hla : la.length = n := by have := ha.len; rwa [nv_length] at this
  have hlb : lb.length = n' := by have := hb.len; rwa [nv_length] at this
  have H0 := Lib.hid (And.intro ha (And.intro hb (And.intro hNa (And.intro hNb (And.intro hla hlb)))))
  clear ha hb hNa hNb hla hlb
  go_enter Try.func61, Try.ntmps61
  go_wp2_with (at_make; refine wpList_mk elemInts rfl rfl _ _ rfl (n := n + n') rfl rfl (by omega) (by omega) (by omega) (by simp only [maxLen]; omega) ?_; intro w1 hown hg hz; have HMK := Lib.hid (And.intro hown (And.intro hg hz)); clear hown hg hz)
  obtain ⟨ho, hg, hz⟩ := HMK.out
  simp only [World.size_alloc] at ho hz
  have hB1 : Blk w1 w.heap.size 64 #[.bool s, .slice A n c] := (((Blk.new w _ _).alloc _).alloc _).chg hg (fun h => h)
  have hB2 : Blk w1 (w.heap.size + 1) 64 #[.bool s', .slice A' n' c'] := by
    have := ((Blk.new (w.alloc (.cells #[.bool s, .slice A n c] 64)) 64 #[.bool s', .slice A' n' c']).alloc (.cells #[.bool false, .slice none 0 0] 64)).chg hg (fun h => h)
    rwa [World.size_alloc] at this
  have hB3 : Blk w1 (w.heap.size + 1 + 1) 64 #[.bool false, .slice none 0 0] := by
    have := (Blk.new ((w.alloc (.cells #[.bool s, .slice A n c] 64)).alloc (.cells #[.bool s', .slice A' n' c'] 64)) 64 #[.bool false, .slice none 0 0]).chg hg (fun h => h)
    rwa [World.size_alloc, World.size_alloc] at this
  have hnw : New w w1 := ((((Chg.refl _ w).alloc _).alloc _).alloc _).new hg
  rw [show List.replicate (n + n') (Value.int .i64 0) = nv .i64 (List.replicate (n + n') 0) by simp [nv]] at ho
  obtain ⟨g, hgq⟩ : ∃ g, w.heap.size + 1 + 1 + 1 = g := ⟨_, rfl⟩
  rw [hgq] at ho
  have hgb : w.heap.size + 1 + 1 < g := by omega
  have HW := Lib.hid (And.intro hB1 (And.intro hB2 (And.intro hB3 (And.intro hnw ho))))
  simp only [hgq]
  clear hgq hB1 hB2 hB3 hnw ho hg hz HMK
  go_loopw [6] (fun i wr => ∃ k : Nat, ∃ o, i = .int .i64 k ∧ k ≤ n ∧ Hid (MulI 10000 la lb k 0 o 0 ∧ wr.ownsRow g 3 1 (.slice (some ⟨g, 0, none⟩) (n + n') (n + n')) (n + n') (nv .i64 o) ∧ Chg (fun j => j = g) w1 wr)) (fun i _ => n - (intOf i).toNat)
  case atStart =>
    obtain ⟨ha, hb, hNa, hNb, hla, hlb⟩ := H0.out
    refine ⟨0, List.replicate (n + n') 0, rfl, by omega, ?_, HW.out.2.2.2.2, Chg.refl _ _⟩
    have := MulI.start (B := 10000) (by omega) la lb
    rwa [hla, hlb] at this
  case round =>
    obtain ⟨i, o, rfl, hi, HO⟩ := hrel
    obtain ⟨hB1, hB2, hB3, hnw, _⟩ := HW.out
    have hC1 := hB1.chg HO.out.2.2 (by omega)
    have hC2 := hB2.chg HO.out.2.2 (by omega)
    have hC3 := hB3.chg HO.out.2.2 (by omega)
    have hc10 := hC1.cell 0 (u := .bool s) rfl
    have hc11 := hC1.cell 1 (u := .slice A n c) rfl
    have hc20 := hC2.cell 0 (u := .bool s') rfl
    have hc21 := hC2.cell 1 (u := .slice A' n' c') rfl
    by_cases hlt : i < n
    · clear hB1 hB2 hB3 hnw hC1 hC2 hC3
      go_wp2_with fail
      go_loopw [7, 8] (fun u v wr => ∃ k cr : Nat, ∃ o, u = .int .i64 cr ∧ v = .int .i64 k ∧ k ≤ n' ∧ cr < 10000 ∧ Hid (MulI 10000 la lb i k o cr ∧ wr.ownsRow g 3 1 (.slice (some ⟨g, 0, none⟩) (n + n') (n + n')) (n + n') (nv .i64 o) ∧ Chg (fun j => j = g) w1 wr)) (fun _ v _ => n' - (intOf v).toNat)
      case atStart => exact ⟨0, 0, o, rfl, rfl, by omega, by omega, HO.out⟩
      case round =>
        obtain ⟨wo, rfl⟩ : ∃ wo : World, wo = wr := ⟨_, rfl⟩
        obtain ⟨k, cr, o, rfl, rfl, hk, hcr, HI⟩ := hrel
        obtain ⟨hB1, hB2, hB3, hnw, _⟩ := HW.out
        have hC1 := hB1.chg HI.out.2.2 (by omega)
        have hC2 := hB2.chg HI.out.2.2 (by omega)
        have hc11 := hC1.cell 1 (u := .slice A n c) rfl
        have hc21 := hC2.cell 1 (u := .slice A' n' c') rfl
        clear hB1 hB2 hB3 hnw hC1 hC2
        by_cases hlk : k < n'
        · obtain ⟨ha, hb, hNa, hNb, hla, hlb⟩ := H0.out
          have hchg : Chg (fun j => j = g) w wo := (HW.out.2.2.2.1.mono (fun _ _ h => h.elim)).trans HI.out.2.2 (fun _ _ h => h)
          obtain ⟨ad, u, rfl, hu, hcu⟩ := (ha.chg hchg (fun k _ h e => by omega)).at_ hlt
          obtain ⟨bd, v, rfl, hv, hcv⟩ := (hb.chg hchg (fun k _ h e => by omega)).at_ hlk
          obtain ⟨p, hp, rfl⟩ := nv_at hu
          obtain ⟨r, hr, rfl⟩ := nv_at hv
          have hol : o.length = n + n' := by rw [HI.out.1.len, hla, hlb]
          obtain ⟨d, hd⟩ : ∃ d, o[i + k]? = some d := ⟨_, List.getElem?_eq_getElem (by omega)⟩
          have hcd := own_cell HI.out.2.1 (i := i + k) (u := .int .i64 (d : Nat)) (by rw [nv, List.getElem?_map, hd]; rfl)
          have hdb := HI.out.1.digs.at_ hd
          have hpb := hNa.digs.at_ hp
          have hrb := hNb.digs.at_ hr
          have hst := HI.out.1.step (by omega) hNa.digs hNb.digs (by omega) hd
          rw [dg_some hp, dg_some hr] at hst
          obtain ⟨gg, hgg, _, hgs, hfz⟩ := own_form HI.out.2.1 (by omega)
          have hgg' : g = gg := by simpa using hgg
          subst hgg'
          have hf := hfz (i + k)
          obtain ⟨m, hm⟩ : ∃ m, p * r = m := ⟨_, rfl⟩
          have hmb : m ≤ 99980001 := by
            rw [← hm]
            exact Nat.le_trans (Nat.mul_le_mul (show p ≤ 9999 by omega) (show r ≤ 9999 by omega)) (by decide)
          have hmi : (p : Int) * (r : Int) = (m : Int) := by rw [← hm]; simp
          rw [hm] at hst
          obtain ⟨v, hv⟩ : ∃ v, d + m + cr = v := ⟨_, rfl⟩
          rw [hv] at hst
          have hvi : (d : Int) + (m : Int) + (cr : Int) = (v : Int) := by omega
          have hvb : v ≤ 100000000 := by omega
          have HS := Lib.hid hst
          have hik : (i : Int) + (k : Int) < (n : Int) + (n' : Int) := by omega
          clear ha hb hNa hNb hla hlb hchg hu hv hp hr hol hd hdb hpb hrb hst hgg hfz hm
          go_wp2
          go_quiet (fail)
          go_wp2
          go_roundw
          case rel =>
            have ho2 := own_chg HI.out.2.1 ((Chg.refl (fun _ => False) wo).drewN nq) (fun _ _ h => h)
            have ho3 := own_set ho2 (i + k) (.int .i64 ((v % 10000 : Nat) : Int)) (by omega)
            rw [nv_set] at ho3
            refine ⟨k + 1, v / 10000, o.set (i + k) (v % 10000), congrArg (Value.int .i64) (by omega), by go_num, by omega, HS.out.1, HS.out.2, ?_, ?_⟩
            · rw [show ((v : Int) % 10000) = ((v % 10000 : Nat) : Int) by omega]; exact ho3
            · exact (HI.out.2.2.drewN nq).setCell (fun _ => rfl) _
          case measure => simp [intOf]; omega
        · obtain rfl : n' = k := by omega
          obtain ⟨ha, hb, hNa, hNb, hla, hlb⟩ := H0.out
          have hol : o.length = n + n' := by rw [HI.out.1.len, hla, hlb]
          obtain ⟨d, hd⟩ : ∃ d, o[i + n']? = some d := ⟨_, List.getElem?_eq_getElem (by omega)⟩
          have hcd := own_cell HI.out.2.1 (i := i + n') (u := .int .i64 (d : Nat)) (by rw [nv, List.getElem?_map, hd]; rfl)
          obtain ⟨gg, hgg, _, hgs, hfz⟩ := own_form HI.out.2.1 (by omega)
          have hgg' : g = gg := by simpa using hgg
          subst hgg'
          have hf := hfz (i + n')
          have hrow : MulI 10000 la lb (i + 1) 0 (o.set (i + n') cr) 0 := by
            have := HI.out.1
            rw [← hlb] at this ⊢
            exact this.row (by omega) (by omega)
          have HS := Lib.hid hrow
          have hik : (i : Int) + (n' : Int) < (n : Int) + (n' : Int) := by omega
          clear ha hb hNa hNb hla hlb hol hd hrow hgg hfz
          go_wp2
          go_roundw
          case rel =>
            have ho3 := own_set HI.out.2.1 (i + n') (.int .i64 (cr : Int)) (by omega)
            rw [nv_set] at ho3
            refine ⟨i + 1, o.set (i + n') cr, by go_num, by omega, HS.out, ho3, ?_⟩
            exact HI.out.2.2.setCell (fun _ => rfl) _
          case measure => simp [intOf]; omega
    · obtain rfl : n = i := by omega
      have HC3 := Lib.hid hC3
      clear hB1 hB2 hB3 hnw hC1 hC2 hC3
      go_wp2_with fail
      obtain ⟨ha, hb, hNa, hNb, hla, hlb⟩ := H0.out
      have hval : val 10000 o = x * y := by
        have := HO.out.1
        rw [← hla] at this
        rw [this.done (i := 0) (c := 0), hNa.val, hNb.val]
      have hn1 : New w wr := HW.out.2.2.2.1.trans HO.out.2.2 (fun j hj e => by omega)
      refine (normal_rn (s != s') _ (n + n') (n + n') o wr (Rd.of_own HO.out.2.1) HO.out.1.digs (Nat.le_refl _) (by omega)).mono ?_
      rintro e w2 ⟨v2, rfl, ⟨s2, A2, n2, c2, rfl, hs2, hm2⟩, hn2⟩
      rw [hval] at hs2 hm2
      have hb2 := HC3.out.chg hn2 (fun h => h)
      have hk0 := hb2.cell 0 (u := .bool false) rfl
      have hk1 := hb2.cell 1 (u := .slice none 0 0) rfl
      have hf0 := hb2.frozen 0
      have hf1 := hb2.frozen 1
      have H2 := Lib.hid (And.intro hb2 (And.intro (hn1.new hn2) (And.intro hs2 hm2)))
      clear ha hb hNa hNb hla hlb hval hn1 hs2 hm2 hn2 hb2 HC3
      go_wp2
      obtain ⟨hb2, hn2, hs2, hm2⟩ := H2.out
      refine bodyPost_ret (res_c rfl _ rfl (aggN.load (hb2.set2 _ _))) rfl ⟨_, rfl, ⟨s2, A2, n2, c2, rfl, hs2, hm2.store hb2 (noInt_two' _ _ _ _) (Chg.at2 _ _ _ _)⟩, ?_⟩
      exact Chg.owned hn2 (Chg.at2 _ _ _ _) (fun k e => by omega)

theorem sg_mul' (s t : Bool) (a b : Nat) : sg (s != t) (a * b : Nat) = sg s a * sg t b := by
  cases s <;> cases t <;> simp [sg, Int.neg_mul, Int.mul_neg]
theorem sg_mul (x y : Int) : sg (decide (x < 0) != decide (y < 0)) (x.natAbs * y.natAbs : Nat) = x * y := by
  rw [sg_mul', sg_of, sg_of]
theorem rmul_any (v v' : Value) (x y : Int) (w : World) (hx : RN w v x) (hy : RN w v' y) (bx : x.natAbs < 2 ^ 1000000) (bY : y.natAbs < 2 ^ 1000000) :
    Calls Try.prog 61 #[v, v'] w fun e w' => ∃ v, e = .returned v ∧ RN w' v (x * y) ∧ New w w' := by
  obtain ⟨s, A, n, c, rfl, hs, hm⟩ := hx
  obtain ⟨s', A', n', c', rfl, hs', hm'⟩ := hy
  have hn := bz_len hm bx
  have hn' := bz_len hm' bY
  refine (rmul_dm s s' A n c A' n' c' _ _ w hm hm' hn hn').mono ?_
  rw [hs, hs', sg_mul]
  rintro e w1 h
  exact h
end Go.Proofs.Ytgofjkppeobjfaa

namespace Go.Dig
set_option linter.unusedVariables false

/-- A quotient's digits from i on, and the rest. -/
structure DivI (B : Nat) (a : List Nat) (b i : Nat) (q : List Nat) (r : Nat) : Prop where
  len : q.length = a.length
  digs : Digs B q
  rest : r < b
  eq : val B (a.drop i) = val B (q.drop i) * b + r
theorem DivI.start {B : Nat} {a : List Nat} {b i : Nat} (hB : 1 ≤ B) (h : val B (a.drop i) < b) : DivI B a b i (List.replicate a.length 0) (val B (a.drop i)) :=
  ⟨by simp, Digs.zeros hB _, h, by rw [List.drop_replicate, val_zeros]; omega⟩
theorem DivI.quo_lt {B : Nat} {a : List Nat} {b i : Nat} {q : List Nat} {r : Nat} (ha : Digs B a) (hB : 1 ≤ B) (h : DivI B a b (i + 1) q r) : B * r + dg a i < B * b := by
  have h1 := dg_lt ha hB i
  have h2 : B * (r + 1) ≤ B * b := Nat.mul_le_mul_left _ h.rest
  rw [Nat.mul_add] at h2
  omega
theorem DivI.step {B : Nat} {a : List Nat} {b i : Nat} {q : List Nat} {r : Nat} (ha : Digs B a) (hB : 1 ≤ B) (h : DivI B a b (i + 1) q r) (hi : i < a.length) :
    DivI B a b i (q.set i ((B * r + dg a i) / b)) ((B * r + dg a i) % b) := by
  have hb : 0 < b := Nat.lt_of_le_of_lt (Nat.zero_le _) h.rest
  have hlt := h.quo_lt ha hB
  have ht : (B * r + dg a i) / b < B := by rw [Nat.div_lt_iff_lt_mul hb]; exact hlt
  refine ⟨by simp [h.len], h.digs.set_ ht, Nat.mod_lt _ hb, ?_⟩
  have hqi : i < q.length := by rw [h.len]; exact hi
  rw [val_drop_dg B a i, val_drop_dg B (q.set i _) i, h.eq]
  have e1 : dg (q.set i ((B * r + dg a i) / b)) i = (B * r + dg a i) / b := dg_some (by rw [List.getElem?_set_self hqi])
  have e2 : (q.set i ((B * r + dg a i) / b)).drop (i + 1) = q.drop (i + 1) := by rw [List.drop_set_of_lt (by omega)]
  rw [e1, e2, Nat.add_mul, Nat.mul_add]
  have := Nat.div_add_mod (B * r + dg a i) b
  rw [Nat.mul_comm b] at this
  have e3 : B * (val B (q.drop (i + 1)) * b) = B * val B (q.drop (i + 1)) * b := by rw [Nat.mul_assoc]
  rw [e3]
  omega
theorem DivI.done {B : Nat} {a : List Nat} {b : Nat} {q : List Nat} {r : Nat} (h : DivI B a b 0 q r) : val B q = val B a / b ∧ r = val B a % b := by
  have e := h.eq
  rw [List.drop_zero, List.drop_zero] at e
  have hb : 0 < b := Nat.lt_of_le_of_lt (Nat.zero_le _) h.rest
  rw [e]
  constructor
  · rw [Nat.mul_comm, Nat.mul_add_div hb, Nat.div_eq_of_lt h.rest]; omega
  · rw [Nat.mul_comm, Nat.mul_add_mod, Nat.mod_eq_of_lt h.rest]

/-- The quotient lies between those of the first digits. -/
theorem quo_bounds {X Y U D P xl yl : Nat} (hX : X = U * P + xl) (hY : Y = D * P + yl) (hx : xl < P) (hy : yl < P) (hD : 1 ≤ D) : U / (D + 1) ≤ X / Y ∧ X / Y ≤ U / D := by
  have hP : 0 < P := by omega
  have hYp : 0 < Y := by rw [hY]; have := Nat.mul_pos hD hP; omega
  constructor
  · rw [Nat.le_div_iff_mul_le hYp]
    have h1 : U / (D + 1) * (D + 1) ≤ U := Nat.div_mul_le_self _ _
    have h2 : Y ≤ (D + 1) * P := by rw [hY, Nat.add_mul]; omega
    calc U / (D + 1) * Y ≤ U / (D + 1) * ((D + 1) * P) := Nat.mul_le_mul_left _ h2
      _ = U / (D + 1) * (D + 1) * P := by rw [Nat.mul_assoc]
      _ ≤ U * P := Nat.mul_le_mul_right _ h1
      _ ≤ X := by rw [hX]; omega
  · rw [Nat.le_div_iff_mul_le (by omega)]
    have h1 : X / Y * Y ≤ X := Nat.div_mul_le_self _ _
    have h2 : X / Y * (D * P) ≤ X / Y * Y := Nat.mul_le_mul_left _ (by rw [hY]; omega)
    have h3 : X / Y * D * P < (U + 1) * P := by rw [Nat.mul_assoc, Nat.add_mul]; omega
    have := Nat.lt_of_mul_lt_mul_right h3
    omega

/-- A digit, or 0, if it does not exist. -/
def dgI (l : List Nat) (i : Int) : Nat := if i < 0 then 0 else dg l i.toNat
theorem dgI_neg {l : List Nat} {i : Int} (h : i < 0) : dgI l i = 0 := by unfold dgI; rw [if_pos h]
theorem dgI_nat (l : List Nat) (i : Nat) : dgI l i = dg l i := by unfold dgI; rw [if_neg (by omega), Int.toNat_natCast]
theorem dgI_lt {B : Nat} {l : List Nat} (h : Digs B l) (hB : 1 ≤ B) (i : Int) : dgI l i < B := by
  unfold dgI
  split
  · omega
  · exact dg_lt h hB _
/-- The first digits of rest and divisor. -/
def upperD (r : List Nat) (k : Nat) : Nat := 10000 * (10000 * dgI r k + dgI r ((k : Int) - 1)) + dgI r ((k : Int) - 2)
def lowerD (b : List Nat) (k : Nat) : Nat := 10000 * dgI b ((k : Int) - 1) + dgI b ((k : Int) - 2)
theorem top_digit {b : List Nat} {y : Nat} (hb : Num 10000 b y) (h : b ≠ []) : 1 ≤ dg b (b.length - 1) := by
  rcases List.eq_nil_or_concat b with rfl | ⟨a, d, rfl⟩
  · exact absurd rfl h
  · rw [List.concat_eq_append] at hb ⊢
    have hd : d ≠ 0 := fun e => hb.trim (by simp [e])
    rw [dg_some (d := d) (by simp)]
    omega
theorem digit_bounds {r b : List Nat} {X Y : Nat} (hr : Num 10000 r X) (hb : Num 10000 b Y) (hY : 1 ≤ Y) (hlt : X < 10000 * Y) :
    1 ≤ lowerD b b.length ∧ upperD r b.length / (lowerD b b.length + 1) ≤ X / Y ∧ X / Y ≤ upperD r b.length / lowerD b b.length := by
  have hbn : b ≠ [] := fun e => by have := (hb.nil_iff (by omega)).1 e; omega
  have ht := top_digit hb hbn
  have hbl : 1 ≤ b.length := by cases b with | nil => exact absurd rfl hbn | cons => simp
  have hrl : r.length ≤ b.length + 1 := by
    refine hr.len_le (by omega) ?_
    have := hb.lt (k := b.length) (by omega) (Nat.le_refl _)
    rw [Nat.pow_succ]
    omega
  have hD : 1 ≤ lowerD b b.length := by
    unfold lowerD
    rw [show ((b.length : Int) - 1) = ((b.length - 1 : Nat) : Int) by omega, dgI_nat]
    omega
  refine ⟨hD, ?_⟩
  rcases Nat.lt_or_ge b.length 2 with h1 | h1
  · have hk : b.length = 1 := by omega
    have hv : Y = dg b 0 := by
      have := val_drop_dg 10000 b 0
      rw [List.drop_zero, List.drop_of_length_le (by omega)] at this
      rw [← hb.val, this]; simp
    have hx : X = dg r 0 + 10000 * dg r 1 := by
      have h2 := val_drop_dg 10000 r 0
      have h3 := val_drop_dg 10000 r 1
      rw [List.drop_of_length_le (i := 1 + 1) (by omega)] at h3
      rw [List.drop_zero] at h2
      rw [← hr.val, h2, h3]; simp
    have hU : upperD r b.length = X * 10000 + 0 := by
      unfold upperD
      rw [hk, dgI_nat, show (((1 : Nat) : Int) - 1) = ((0 : Nat) : Int) by omega, dgI_nat, dgI_neg (by omega), hx]
      omega
    have hL : lowerD b b.length = Y * 10000 + 0 := by
      unfold lowerD
      rw [hk, show (((1 : Nat) : Int) - 1) = ((0 : Nat) : Int) by omega, dgI_nat, dgI_neg (by omega), hv]
      omega
    rw [hU, hL]
    have e : X * 10000 / (Y * 10000) = X / Y := Nat.mul_div_mul_right _ _ (by omega)
    simp only [Nat.add_zero]
    rw [e]
    refine ⟨?_, Nat.le_refl _⟩
    rw [← e]
    exact Nat.div_le_div_left (by omega) (by omega)
  · obtain ⟨m, hm⟩ : ∃ m, b.length = m + 2 := ⟨b.length - 2, by omega⟩
    have hx : X = upperD r b.length * 10000 ^ m + val 10000 (r.take m) := by
      have h0 : val 10000 r = val 10000 (r.take m) + 10000 ^ m * val 10000 (r.drop m) := by
        rcases Nat.le_total m r.length with h | h
        · exact val_split 10000 r m h
        · rw [List.take_of_length_le h, List.drop_of_length_le h]; simp
      have h2 := val_drop_dg 10000 r m
      have h3 := val_drop_dg 10000 r (m + 1)
      have h4 := val_drop_dg 10000 r (m + 2)
      rw [List.drop_of_length_le (i := m + 2 + 1) (by omega)] at h4
      have hU : upperD r b.length = val 10000 (r.drop m) := by
        unfold upperD
        rw [hm, dgI_nat, show (((m + 2 : Nat) : Int) - 1) = ((m + 1 : Nat) : Int) by omega, dgI_nat, show (((m + 2 : Nat) : Int) - 2) = ((m : Nat) : Int) by omega, dgI_nat, h2, h3, h4]
        simp
        omega
      rw [← hr.val, h0, hU, Nat.mul_comm]
      omega
    have hy : Y = lowerD b b.length * 10000 ^ m + val 10000 (b.take m) := by
      have h0 := val_split 10000 b m (by omega)
      have h2 := val_drop_dg 10000 b m
      have h3 := val_drop_dg 10000 b (m + 1)
      rw [List.drop_of_length_le (i := m + 1 + 1) (by omega)] at h3
      have hU : lowerD b b.length = val 10000 (b.drop m) := by
        unfold lowerD
        rw [hm, show (((m + 2 : Nat) : Int) - 1) = ((m + 1 : Nat) : Int) by omega, dgI_nat, show (((m + 2 : Nat) : Int) - 2) = ((m : Nat) : Int) by omega, dgI_nat, h2, h3]
        simp
        omega
      rw [← hb.val, h0, hU, Nat.mul_comm]
      omega
    refine quo_bounds hx hy ?_ ?_ hD
    · have := val_lt (hr.digs.take m)
      exact Nat.lt_of_lt_of_le this (Nat.pow_le_pow_right (by omega) (List.length_take_le _ _))
    · have := val_lt (hb.digs.take m)
      exact Nat.lt_of_lt_of_le this (Nat.pow_le_pow_right (by omega) (List.length_take_le _ _))
end Go.Dig

namespace Go.Proofs.Ytgofjkppeobjfaa
set_option linter.unusedVariables false
open Go.RowKit Go.Mem Go.Dig

theorem DM.chg {S : Nat → Prop} {w w' : World} {A : Option Addr} {n c m : Nat} (h : DM w A n c m) (hc : Chg S w w') (hs : ∀ k, blk A = some k → ¬ S k) : DM w' A n c m := by
  obtain ⟨l, h1, h2⟩ := h
  exact ⟨l, h1.chg hc (fun k hk _ => hs k hk), h2⟩
theorem DM.chg' {S : Nat → Prop} {w w' : World} {A : Option Addr} {n c m : Nat} (h : DM w A n c m) (hc : Chg S w w') (hs : 0 < n → ∀ k, blk A = some k → ¬ S k) : DM w' A n c m := by
  rcases Nat.eq_zero_or_pos n with h0 | h0
  · subst h0
    obtain ⟨l, h1, h2⟩ := h
    exact ⟨l, ⟨h1.1, fun h => absurd h (by omega)⟩, h2⟩
  · exact h.chg hc (hs h0)
theorem DM.old {w w' : World} {A : Option Addr} {n c m g : Nat} (h : DM w A n c m) (hc : Chg (fun k => k = g) w w') (hg : w.heap.size ≤ g) : DM w' A n c m := by
  obtain ⟨l, h1, h2⟩ := h
  exact ⟨l, h1.chg hc (fun k _ hk e => by omega), h2⟩
/-- normal of digits without a sign: the same address. -/
theorem normal_dm (A : Option Addr) (n c : Nat) (l : List Nat) (w : World) (hr : Rd w A n (nv .i64 l)) (hd : Digs 10000 l) (hnc : n ≤ c) (hc : c ≤ 9223372036854775807) :
    Calls Try.prog 45 #[.bool false, .slice A n c] w fun e w' => ∃ T, e = .returned (.agg #[.bool false, .slice A T c]) ∧ DM w' A T c (val 10000 l) ∧ T ≤ n ∧ New w w' := by
  refine (normal_any false A n c l w hr hnc hc).mono ?_
  rintro e w' ⟨rfl, hn⟩
  have hll : l.length = n := by have := hr.len; rwa [nv_length] at this
  have hlen := trim_len l
  refine ⟨(Dig.trim l).length, by rw [Bool.false_and], ⟨Dig.trim l, ?_, by omega, hc, Num.of_trim hd⟩, by omega, hn⟩
  have := (hr.new hn).take (k := (Dig.trim l).length) (by omega)
  rwa [nv_take, ← trim_take] at this

set_option maxHeartbeats 1000000 in
theorem small_any (A : Option Addr) (n c x k : Nat) (w : World) (hx : DM w A n c x) (hn : n ≤ 1000000) (hk : k ≤ 9999) :
    Calls Try.prog 77 #[.slice A n c, .int .i64 k] w fun e w' => ∃ R m d, e = .returned (.slice R m d) ∧ DM w' R m d (x * k) ∧ New w w' := by
  have HX := Lib.hid hx
  clear hx
  go_enter Try.func77, Try.ntmps77
  go_wp2_with fail
  refine (of_any (k : Int) w (by omega) (by omega)).mono ?_
  rintro e w1 ⟨v1, rfl, ⟨s1, A1, n1, c1, rfl, hs1, hm1⟩, hn1⟩
  rw [show s1 = false by rw [hs1]; simp]
  have hn1l : n1 ≤ 1000000 := by
    have := hm1.len (k := 1) (by rw [Int.natAbs_natCast, Nat.pow_one]; omega)
    omega
  have H1 := Lib.hid (And.intro hm1 hn1)
  clear hs1 hm1 hn1
  go_wp2_with fail
  refine (rmul_dm false false A n c A1 n1 c1 x _ w1 (HX.out.new H1.out.2) H1.out.1 hn hn1l).mono ?_
  rintro e w2 ⟨v2, rfl, ⟨s2, A2, n2, c2, rfl, hs2, hm2⟩, hn2⟩
  rw [sg_abs, Int.natAbs_natCast] at hm2
  have H2 := Lib.hid (And.intro hm2 (H1.out.2.new hn2))
  clear hs2 hm2 hn2 H1
  go_wp2
  go_ret
  exact ⟨A2, n2, c2, rfl, H2.out.1.new ((Chg.refl _ _).alloc _), H2.out.2.alloc _⟩

set_option maxHeartbeats 1000000 in
theorem digits_any (A : Option Addr) (n c : Nat) (l : List Nat) (i : Int) (w : World) (hr : Rd w A n (nv .i64 l)) (hn : n ≤ 9223372036854775807) :
    Calls Try.prog 82 #[.slice A n c, .int .i64 i] w fun e w' => e = .returned (.int .i64 (dgI l i)) ∧ w = w' := by
  have hl : l.length = n := by have := hr.len; rwa [nv_length] at this
  by_cases h : i < 0
  · rw [dgI_neg h]
    clear hr hl
    go_enter Try.func82, Try.ntmps82
    go_wp2
    go_ret
    exact ⟨rfl, rfl⟩
  · obtain ⟨k, rfl⟩ : ∃ k : Nat, i = (k : Int) := ⟨i.toNat, by omega⟩
    rw [dgI_nat]
    have hng : decide ((k : Int) < 0) = false := by simp
    by_cases h1 : k < n
    · obtain ⟨ad, u, rfl, hu, hcu⟩ := hr.at_ h1
      obtain ⟨z, hz, rfl⟩ := nv_at hu
      rw [dg_some hz]
      have hlt : decide ((n : Int) ≤ (k : Int)) = false := by simp; omega
      have hlt' : decide (n ≤ k) = false := by simp; omega
      clear hr hl hu hz
      go_enter Try.func82, Try.ntmps82
      go_wp2
      go_ret
      exact ⟨rfl, rfl⟩
    · rw [dg_none (by omega)]
      have hlt : decide ((n : Int) ≤ (k : Int)) = true := by simp; omega
      have hlt' : decide (n ≤ k) = true := by simp; omega
      clear hr hl
      go_enter Try.func82, Try.ntmps82
      go_wp2
      go_ret
      exact ⟨rfl, rfl⟩

theorem min_9999 (P : Program) (y : Nat) : ∃ m : Nat, ((9999 ≤ y ∧ m = 9999) ∨ (y ≤ 9999 ∧ m = y)) ∧ ∀ ts t W, (Builtin.min_ ts t #[.int .i64 9999, .int .i64 (y : Int)]).run P W = .ok (.int .i64 (m : Int)) W := by
  rcases Nat.le_total 9999 y with h | h
  · exact ⟨9999, .inl ⟨h, rfl⟩, fun ts t W => run_min2 _ _ _ (.inl ⟨by omega, rfl⟩) ts t W⟩
  · exact ⟨y, .inr ⟨h, rfl⟩, fun ts t W => run_min2 _ _ _ (.inr ⟨by omega, rfl⟩) ts t W⟩
theorem min_ex (P : Program) (x y : Nat) : ∃ m : Nat, ((x ≤ y ∧ m = x) ∨ (y ≤ x ∧ m = y)) ∧ ∀ ts t W, (Builtin.min_ ts t #[.int .i64 (x : Int), .int .i64 (y : Int)]).run P W = .ok (.int .i64 (m : Int)) W := by
  rcases Nat.le_total x y with h | h
  · exact ⟨x, .inl ⟨h, rfl⟩, fun ts t W => run_min2 _ _ _ (.inl ⟨by omega, rfl⟩) ts t W⟩
  · exact ⟨y, .inr ⟨h, rfl⟩, fun ts t W => run_min2 _ _ _ (.inr ⟨by omega, rfl⟩) ts t W⟩

set_option maxRecDepth 100000 in
set_option maxHeartbeats 2000000 in
theorem digit_any (A : Option Addr) (n c : Nat) (A' : Option Addr) (n' c' : Nat) (X Y : Nat) (w : World) (hx : DM w A n c X) (hy : DM w A' n' c' Y) (hY : 1 ≤ Y) (hlt : X < 10000 * Y) :
    Calls Try.prog 76 #[.slice A n c, .slice A' n' c'] w fun e w' => ∃ lo hi : Nat, e = .returned (.tuple #[.int .i64 lo, .int .i64 hi]) ∧ (lo ≤ X / Y ∧ X / Y ≤ hi ∧ hi ≤ 9999) ∧ New w w' := by
  have hq9 : X / Y ≤ 9999 := by
    have : X / Y < 10000 := by rw [Nat.div_lt_iff_lt_mul (by omega)]; exact hlt
    omega
  obtain ⟨la, ha, hc1, hc2, hNa⟩ := hx
  obtain ⟨lb, hb, hd1, hd2, hNb⟩ := hy
  have hla : la.length = n := by have := ha.len; rwa [nv_length] at this
  have hlb : lb.length = n' := by have := hb.len; rwa [nv_length] at this
  have hn1 : 1 ≤ n' := by
    rcases Nat.eq_zero_or_pos n' with h | h
    · have := (hNb.nil_iff (by omega)).1 (List.eq_nil_of_length_eq_zero (by omega)); omega
    · exact h
  by_cases hs : n < n'
  · have h0 : X / Y = 0 := Nat.div_eq_of_lt (hNa.len_lt (by omega) hNb (by omega))
    have hsi : (n : Int) < (n' : Int) := by omega
    have H := Lib.hid h0
    clear ha hb hNa hNb hla hlb h0 hq9
    go_enter Try.func76, Try.ntmps76
    go_wp2
    go_ret2
    exact ⟨0, 0, rfl, ⟨Nat.zero_le _, by rw [H.out]; exact Nat.le_refl _, by omega⟩, Chg.refl _ _⟩
  · obtain ⟨hD, hlo, hhi⟩ := digit_bounds hNa hNb hY hlt
    rw [hlb] at hD hlo hhi
    have b1 := dgI_lt hNa.digs (by omega) (n' : Int)
    have b2 := dgI_lt hNa.digs (by omega) ((n' : Int) - 1)
    have b3 := dgI_lt hNa.digs (by omega) ((n' : Int) - 2)
    have b4 := dgI_lt hNb.digs (by omega) ((n' : Int) - 1)
    have b5 := dgI_lt hNb.digs (by omega) ((n' : Int) - 2)
    have f1 := fun W (h : Rd W A n (nv .i64 la)) => digits_any A n c la (n' : Int) W h (by omega)
    have f2 := fun W (h : Rd W A n (nv .i64 la)) => digits_any A n c la ((n' : Int) - 1) W h (by omega)
    have f3 := fun W (h : Rd W A n (nv .i64 la)) => digits_any A n c la ((n' : Int) - 2) W h (by omega)
    have f4 := fun W (h : Rd W A' n' (nv .i64 lb)) => digits_any A' n' c' lb ((n' : Int) - 1) W h (by omega)
    have f5 := fun W (h : Rd W A' n' (nv .i64 lb)) => digits_any A' n' c' lb ((n' : Int) - 2) W h (by omega)
    unfold upperD lowerD at hlo hhi
    unfold lowerD at hD
    generalize dgI la (n' : Int) = d1 at *
    generalize dgI la ((n' : Int) - 1) = d2 at *
    generalize dgI la ((n' : Int) - 2) = d3 at *
    generalize dgI lb ((n' : Int) - 1) = d4 at *
    generalize dgI lb ((n' : Int) - 2) = d5 at *
    obtain ⟨U, hU⟩ : ∃ U, 10000 * (10000 * d1 + d2) + d3 = U := ⟨_, rfl⟩
    obtain ⟨D, hDq⟩ : ∃ D, 10000 * d4 + d5 = D := ⟨_, rfl⟩
    rw [hU, hDq] at hlo hhi
    rw [hDq] at hD
    have hUi : (10000 : Int) * (10000 * (d1 : Int) + (d2 : Int)) + (d3 : Int) = (U : Int) := by omega
    have hDi : (10000 : Int) * (d4 : Int) + (d5 : Int) = (D : Int) := by omega
    have hUb : U ≤ 1000000000000 := by omega
    have hDb : D ≤ 100000000 := by omega
    obtain ⟨mlo, hmlo, hmin1⟩ := min_9999 Try.prog (U / (D + 1))
    obtain ⟨mhi, hmhi, hmin2⟩ := min_9999 Try.prog (U / D)
    have hge : decide ((n : Int) < (n' : Int)) = false := by simp; omega
    have hge' : decide (n < n') = false := by simp; omega
    have hnz : ((n' : Int) == 0) = false := by simp; omega
    have HF := Lib.hid (And.intro f1 (And.intro f2 (And.intro f3 (And.intro f4 f5))))
    have HR := Lib.hid (And.intro ha (And.intro hb (And.intro hmlo (And.intro hmhi (And.intro hlo (And.intro hhi hq9))))))
    clear f1 f2 f3 f4 f5 ha hb hmlo hmhi hlo hhi hq9 hNa hNb hla hlb hU hDq hlt
    go_enter Try.func76, Try.ntmps76
    go_wp2_with fail
    refine (HF.out.1 w HR.out.1).mono ?_
    rintro e w1 ⟨rfl, rfl⟩
    go_wp2_with fail
    refine (HF.out.2.1 w HR.out.1).mono ?_
    rintro e w1 ⟨rfl, rfl⟩
    go_wp2_with fail
    refine (HF.out.2.2.1 w HR.out.1).mono ?_
    rintro e w1 ⟨rfl, rfl⟩
    go_wp2_with fail
    refine (HF.out.2.2.2.1 w HR.out.2.1).mono ?_
    rintro e w1 ⟨rfl, rfl⟩
    go_wp2_with fail
    refine (HF.out.2.2.2.2 w HR.out.2.1).mono ?_
    rintro e w1 ⟨rfl, rfl⟩
    go_wp2_with fail
    have g1 : IntKind.i64.wrap ((D : Int) + 1) = (D : Int) + 1 := IntWalk.i64_in _ (by omega)
    have g2 : ((D : Int) + 1 == 0) = false := by simp; omega
    have g3 : ((D : Int) == 0) = false := by simp; omega
    have g4 : (U : Int).tdiv ((D : Int) + 1) = ((U / (D + 1) : Nat) : Int) := by rw [Int.tdiv_eq_ediv_of_nonneg (by omega)]; simp
    have g5 : (U : Int).tdiv (D : Int) = ((U / D : Nat) : Int) := by rw [Int.tdiv_eq_ediv_of_nonneg (by omega)]; simp
    have g6 : U / (D + 1) ≤ 1000000000000 := Nat.le_trans (Nat.div_le_self _ _) hUb
    have g7 : U / D ≤ 1000000000000 := Nat.le_trans (Nat.div_le_self _ _) hUb
    generalize U / (D + 1) = Q1 at *
    generalize U / D = Q2 at *
    have g8 : IntKind.i64.wrap (Q1 : Int) = (Q1 : Int) := IntWalk.i64_in _ (by omega)
    have g9 : IntKind.i64.wrap (Q2 : Int) = (Q2 : Int) := IntWalk.i64_in _ (by omega)
    go_quiet (fail)
    go_wp2
    go_ret2
    obtain ⟨_, _, h1, h2, h3, h4, h5⟩ := HR.out
    generalize X / Y = q at *
    exact ⟨mlo, mhi, rfl, ⟨by omega, by omega, by omega⟩, (Chg.refl _ w).drewN nq⟩
end Go.Proofs.Ytgofjkppeobjfaa

namespace Go.Proofs.Ytgofjkppeobjfaa
set_option linter.unusedVariables false
open Go.RowKit Go.Mem

theorem max_ex (P : Program) (x y : Int) : ∃ m, ((x ≤ y ∧ m = y) ∨ (y ≤ x ∧ m = x)) ∧ ∀ ts t W, (Builtin.max_ ts t #[.int .i64 x, .int .i64 y]).run P W = .ok (.int .i64 m) W := by
  rcases Int.le_total x y with h | h
  · exact ⟨y, .inl ⟨h, rfl⟩, fun ts t W => run_max2 _ _ _ (.inl ⟨h, rfl⟩) ts t W⟩
  · exact ⟨x, .inr ⟨h, rfl⟩, fun ts t W => run_max2 _ _ _ (.inr ⟨h, rfl⟩) ts t W⟩

theorem pow_le61 {k : Nat} (h : k ≤ 61) : 2 ^ k ≤ 2305843009213693952 := Nat.le_trans (Nat.pow_le_pow_right (by omega) h) (by decide)
set_option maxHeartbeats 1000000 in
theorem rbound_any (k : Int) (hk : -9223372036854775808 ≤ k) (hk2 : k ≤ 9223372036854775807) (w : World) :
    Calls Try.prog 10 #[.int .i64 k] w fun e w' => ∃ b : Nat, e = .returned (.int .i64 b) ∧ (1 ≤ b ∧ b ≤ 4611686018427387904) ∧ w = w' := by
  go_enter Try.func10, Try.ntmps10
  go_wp2_with fail
  refine (around_any k 1000000 w hk hk2 (by omega) (by omega)).mono ?_
  rintro e w1 ⟨rfl, rfl⟩
  obtain ⟨n, hn, hnb⟩ : ∃ n : Nat, aroundI k 1000000 = (n : Int) ∧ n < 1000000 := by
    have := aroundI_range k 1000000 (by omega)
    exact ⟨(aroundI k 1000000).toNat, by omega, by omega⟩
  rw [hn]
  clear hn hk hk2
  obtain ⟨r, hr⟩ : ∃ r : Nat, n % 4 = r := ⟨_, rfl⟩
  have hri : (n : Int) % 4 = (r : Int) := by omega
  have hr4 : r < 4 := by omega
  obtain ⟨d, hd⟩ : ∃ d : Nat, n / 4 = d := ⟨_, rfl⟩
  have hdi : (n : Int) / 4 = (d : Int) := by omega
  have hdb : d < 250000 := by omega
  clear hr hd
  match r, hr4 with
  | 0, _ =>
    go_wp2
    go_ret
    exact ⟨1 + d % 40, by simp, by omega, rfl⟩
  | 1, _ =>
    obtain ⟨t, ht⟩ : ∃ t : Nat, d % 62 = t := ⟨_, rfl⟩
    have hti : (d : Int) % 62 = (t : Int) := by omega
    have htb : t ≤ 61 := by omega
    have HT := Lib.hid ht
    clear ht
    go_wp2
    go_loop [4, 5] (fun o i => ∃ j p : Nat, j ≤ t ∧ i = .int .i64 j ∧ o = .int .i64 p ∧ Hid (p = 2 ^ j)) (fun _ i => t - (intOf i).toNat)
    case atStart => exact ⟨0, 1, by omega, rfl, rfl, rfl⟩
    case round =>
      obtain ⟨j, p, hj, rfl, rfl, HP⟩ := hrel
      have hpb : p ≤ 2305843009213693952 := by rw [HP.out]; exact pow_le61 (by omega)
      by_cases hlt : j < t
      · have hlti : (j : Int) < (t : Int) := by omega
        go_wp2
        go_round
        case rel => exact ⟨j + 1, 2 * p, by omega, by go_num, by go_num, by show _ = _; rw [HP.out, Nat.pow_succ]; omega⟩
        case measure => simp [intOf]; omega
      · have hlti : decide ((j : Int) < (t : Int)) = false := by simp; omega
        have hlti' : decide (j < t) = false := by simp; omega
        have hp1 : 1 ≤ p := by rw [HP.out]; exact Nat.pow_pos (by omega)
        obtain ⟨m, hm, hmax⟩ := max_ex Try.prog 1 ((p : Int) + (n : Int) / 400 % 3 - 1)
        go_wp2
        go_ret
        exact ⟨m.toNat, ret_int (by omega), by omega, rfl⟩
  | 2, _ =>
    go_wp2
    go_ret
    exact ⟨4611686018427387903 - d % 9, ret_int (by omega), by omega, rfl⟩
  | 3, _ =>
    have hmul : n * n ≤ 1000000000000 := Nat.le_trans (Nat.mul_le_mul (Nat.le_of_lt hnb) (Nat.le_of_lt hnb)) (by decide)
    have hmi : (n : Int) * (n : Int) = ((n * n : Nat) : Int) := by simp
    generalize n * n = q at hmul hmi
    go_wp2
    go_ret
    exact ⟨1 + q, by simp, by omega, rfl⟩
end Go.Proofs.Ytgofjkppeobjfaa

namespace Go.Proofs.Ytgofjkppeobjfaa
set_option linter.unusedVariables false
open Go.RowKit Go.Mem Go.Dig

theorem own_lit {w : World} {cs : Array Value} {e : TypeId} {n : Nat} (h : cs.size = n) (hn : n ≤ maxLen) : (w.alloc (.cells cs e)).ownsRow w.heap.size e 1 (.slice (some ⟨w.heap.size, 0, none⟩) n n) n cs.toList :=
  World.ownsRow_lit (e := e) (size := 1) w cs n (Nat.le_refl _) hn (by rw [Nat.mul_one]; exact h)

/-- What the outer loop holds. -/
def DvI (w1 : World) (g : Nat) (la : List Nat) (y n j : Nat) (R : Option Addr) (m d : Nat) (wr : World) : Prop :=
  ∃ q r, DivI 10000 la y j q r ∧ wr.ownsRow g 3 1 (.slice (some ⟨g, 0, none⟩) n n) n (nv .i64 q) ∧ DM wr R m d r ∧ (0 < m → blk R ≠ some g) ∧ Chg (fun k => k = g) w1 wr

set_option maxRecDepth 100000 in
set_option maxHeartbeats 4000000 in
theorem divided_any (A : Option Addr) (n c : Nat) (A' : Option Addr) (n' c' : Nat) (x y : Nat) (w : World) (hx : DM w A n c x) (hy : DM w A' n' c' y) (hn : n ≤ 1000000) (hn' : n' ≤ 900000) (hy1 : 1 ≤ y) :
    Calls Try.prog 62 #[.slice A n c, .slice A' n' c'] w fun e w' => ∃ Q k d R m d', e = .returned (.tuple #[.slice Q k d, .slice R m d']) ∧ OM w' w.heap.size Q k d (x / y) ∧ DM w' R m d' (x % y) ∧ New w w' := by
  have HY := Lib.hid hy
  obtain ⟨la, ha, hc1, hc2, hNa⟩ := hx
  have hla : la.length = n := by have := ha.len; rwa [nv_length] at this
  have hyp : 1 ≤ n' := by
    rcases Nat.eq_zero_or_pos n' with h | h
    · have := hy.pos.1 h; omega
    · exact h
  -- where the division begins
  obtain ⟨m1, hm1, hmin⟩ : ∃ m1 : Int, (((n : Int) ≤ (n : Int) - (n' : Int) + 1 ∧ m1 = n) ∨ ((n : Int) - (n' : Int) + 1 ≤ n ∧ m1 = (n : Int) - (n' : Int) + 1)) ∧ ∀ ts t W, (Builtin.min_ ts t #[.int .i64 (n : Int), .int .i64 ((n : Int) - (n' : Int) + 1)]).run Try.prog W = .ok (.int .i64 m1) W := by
    rcases Int.le_total (n : Int) ((n : Int) - (n' : Int) + 1) with h | h
    · exact ⟨_, .inl ⟨h, rfl⟩, fun ts t W => run_min2 _ _ _ (.inl ⟨h, rfl⟩) ts t W⟩
    · exact ⟨_, .inr ⟨h, rfl⟩, fun ts t W => run_min2 _ _ _ (.inr ⟨h, rfl⟩) ts t W⟩
  obtain ⟨m2, hm2, hmax⟩ := max_ex Try.prog 0 m1
  obtain ⟨f, hf⟩ : ∃ f : Nat, m2 = (f : Int) := ⟨m2.toNat, by omega⟩
  subst hf
  have hfn : f ≤ n := by omega
  have hfl : n - f < n' := by omega
  have htop : val 10000 (la.drop f) < y := by
    have h1 := hNa.digs.drop f
    obtain ⟨lb, hb, _, _, hNb⟩ := hy
    have hlb : lb.length = n' := by have := hb.len; rwa [nv_length] at this
    have h2 := (Num.of_trim h1).len_lt (by omega) hNb (by have := trim_len (la.drop f); rw [List.length_drop] at this; omega)
    exact h2
  have hcut := fun W => run_cut elemInts .i64 A n c f (f : Int) rfl hfn W
  have H0 := Lib.hid (And.intro ha (And.intro hNa (And.intro hla htop)))
  clear ha hNa hla htop hy hm1 hm2
  go_enter Try.func62, Try.ntmps62
  go_wp2_with (at_make; refine wpList_mk elemInts rfl rfl _ _ rfl (n := n) rfl rfl rfl rfl (by omega) (by simp only [maxLen]; omega) ?_; intro w1 hown hg hz; have HMK := Lib.hid (And.intro hown (And.intro hg hz)); clear hown hg hz)
  obtain ⟨ha, hNa, hla, htop⟩ := H0.out
  obtain ⟨ho, hg, hz⟩ := HMK.out
  have hr1 : Rd w1 (cutA A c f) (n - f) (nv .i64 (la.drop f)) := by
    have := (ha.new hg).cutA (k := f) hfn hc1
    rwa [nv_drop] at this
  refine (normal_dm (cutA A c f) (n - f) (c - f) (la.drop f) w1 hr1 (hNa.digs.drop f) (by omega) (by omega)).mono ?_
  rintro e w2 ⟨T, rfl, hdm, hT, hn2⟩
  have hbA : 0 < T → blk (cutA A c f) ≠ some w.heap.size := by
    intro hT0
    rw [blk_cutA]
    intro hb
    obtain ⟨ad, u, rfl, _, hcu⟩ := ha.at_ (show 0 < n by omega)
    have h1 := World.block_lt_of_cell? w _ hcu
    rw [block_add] at h1
    simp [blk] at hb
    omega
  rw [show List.replicate n (Value.int .i64 0) = nv .i64 (List.replicate n 0) by simp [nv]] at ho
  obtain ⟨W, hW⟩ : ∃ W, w2.alloc (.cells #[.bool false, .slice (cutA A c f) T (c - f)] 64) = W := ⟨_, rfl⟩
  have hnW : New w2 W := by rw [← hW]; exact (Chg.refl _ w2).alloc _
  have hDv : DvI w1 w.heap.size la y n f (cutA A c f) T (c - f) W := by
    refine ⟨List.replicate n 0, val 10000 (la.drop f), ?_, own_chg ho (hn2.new hnW) (fun _ _ h => h), hdm.new hnW, hbA, (hn2.new hnW).mono (fun _ _ h => h.elim)⟩
    have := DivI.start (B := 10000) (a := la) (by omega) htop
    rwa [hla] at this
  have HI := Lib.hid (And.intro hDv (And.intro hg hz))
  have HWQ := Lib.hid hW
  clear ha hNa hla htop ho hr1 hdm hg hn2 hbA hz HMK hmin hmax hcut hnW hDv hW
  go_wp2_with fail
  rw [HWQ.out]
  clear HWQ
  obtain ⟨g, hgq⟩ : ∃ g, w.heap.size = g := ⟨_, rfl⟩
  rw [hgq] at HI
  have HG := Lib.hid hgq
  simp only [hgq]
  clear hgq
  generalize cutA A c f = R0 at *
  go_loopw [9, 10] (fun v i wr => ∃ j m d : Nat, ∃ R, v = .slice R m d ∧ i = .int .i64 ((j : Int) - 1) ∧ j ≤ f ∧ Hid (DvI w1 g la y n j R m d wr)) (fun _ i _ => (intOf i + 1).toNat)
  case atStart => exact ⟨f, T, c - f, R0, rfl, rfl, Nat.le_refl _, HI.out.1⟩
  case round =>
    obtain ⟨j, m, d, R, rfl, rfl, hj, HD⟩ := hrel
    by_cases h0 : j = 0
    · subst h0
      go_wp2
      go_ret2
      obtain ⟨q, r, hdiv, ho, hdm, _, hch⟩ := HD.out
      obtain ⟨hq, hr⟩ := hdiv.done
      rw [H0.out.2.1.val] at hq hr
      rw [hr] at hdm
      refine ⟨_, _, _, _, _, _, rfl, ⟨q, by rw [HG.out]; exact ho, hdiv.digs, hq⟩, hdm, ?_⟩
      exact HI.out.2.1.trans hch (fun k hk e => by have := HG.out; omega)
    · obtain ⟨i, rfl⟩ : ∃ i, j = i + 1 := ⟨j - 1, by omega⟩
      have hij : (((i + 1 : Nat) : Int) - 1) = (i : Int) := by omega
      rw [hij]
      obtain ⟨wo, rfl⟩ : ∃ wo : World, wo = wr := ⟨_, rfl⟩
      obtain ⟨q, r, hdiv, hoq, ⟨lr, hrr, hmd, hdm, hNr⟩, _, hch⟩ := HD.out
      have hch0 : Chg (fun k => k = g) w wo := (HI.out.2.1.mono (fun _ _ h => h.elim)).trans hch (fun _ _ h => h)
      obtain ⟨ha, hNa, hla, htop⟩ := H0.out
      obtain ⟨ad, u, rfl, hu, hcu⟩ := (ha.chg hch0 (fun k _ h e => by have := HG.out; omega)).at_ (show i < n by omega)
      obtain ⟨p, hp, rfl⟩ := nv_at hu
      have hpb := hNa.digs.at_ hp
      have hgo : g < wo.heap.size := by
        have := HI.out.2.2
        have := HG.out
        have := hch.size
        omega
      have hmn : m ≤ n' := by
        obtain ⟨lb, hb, _, _, hNb⟩ := HY.out
        have hlb : lb.length = n' := by have := hb.len; rwa [nv_length] at this
        have hlr : lr.length = m := by have := hrr.len; rwa [nv_length] at this
        rcases Nat.lt_or_ge n' m with h | h
        · have h5 := hNb.len_lt (by omega) hNr (by omega)
          have h6 := hdiv.rest
          omega
        · exact h
      have hXlt := hdiv.quo_lt hNa.digs (by omega)
      have hstep := hdiv.step hNa.digs (by omega) (by omega)
      rw [dg_some hp] at hXlt hstep
      obtain ⟨X, hX⟩ : ∃ X, 10000 * r + p = X := ⟨_, rfl⟩
      rw [hX] at hXlt hstep
      have HP := Lib.hid (And.intro hp (And.intro hch0 (And.intro hX (And.intro hXlt (And.intro hstep (And.intro hoq hch))))))
      have HR := Lib.hid (And.intro hNr hrr)
      clear ha hNa hla htop hu hp hch0 hNr hrr hij hdiv hoq hch hX hXlt hstep
      go_wp2_with (at_builtin; refine wpList_app elemInts rfl _ _ rfl rfl (own_lit rfl (by simp only [maxLen]; omega)) rfl (HR.out.2.new ((Chg.refl _ _).alloc _)) (nv_one _) (by simp only [maxLen]; omega) (by omega) (by simp) ?_; intro A3 c3 w3 hown hg3 hat; have HA := Lib.hid (And.intro hown hg3); clear hown hg3 hat)
      obtain ⟨ho3, hg3⟩ := HA.out
      have ho3' : w3.ownsRow wo.heap.size 3 1 (.slice A3 (1 + m) c3) (1 + m) (nv .i64 (p :: lr)) := ho3
      have hn3 : New wo w3 := ((Chg.refl _ wo).alloc _).grown hg3 (fun k hk hlt => by simp [blk] at hk; omega)
      have hcap := own_cap ho3'
      have hval : val 10000 (p :: lr) = X := by rw [val_cons, HR.out.1.val, ← HP.out.2.2.1]; omega
      refine (normal_dm A3 (1 + m) c3 (p :: lr) w3 (Rd.of_own ho3') (Digs.cons hpb HR.out.1.digs) hcap.1 hcap.2).mono ?_
      rintro e w4 ⟨T4, rfl, hdm4, hT4, hn4⟩
      rw [hval] at hdm4
      have hA3 : ∀ k, blk A3 = some k → g < k := fun k hk => by have := own_blk_le ho3' hk; omega
      have H4 := Lib.hid (And.intro hdm4 (And.intro (hn3.new hn4) hA3))
      clear ho3 hg3 ho3' hn3 hcap hval hdm4 hn4 hA3 HA HR hcu
      go_wp2_with fail
      refine Calls.new1 ?_
      intro W5 hb5 hn5 hz5
      obtain ⟨hdm4, hn4, hA3⟩ := H4.out
      have hch5 : Chg (fun k => k = g) w W5 := HP.out.2.1.trans (hn4.new hn5) (fun _ _ h => h.elim)
      refine (digit_any A3 T4 c3 A' n' c' X y W5 (hdm4.new hn5) (HY.out.old hch5 (by rw [HG.out]; exact Nat.le_refl _)) hy1 HP.out.2.2.2.1).mono ?_
      rintro e w6 ⟨lo0, hi0, rfl, ⟨hlo0, hhi0, hhi9⟩, hn6⟩
      obtain ⟨Q, hQ⟩ : ∃ Q, X / y = Q := ⟨_, rfl⟩
      rw [hQ] at hlo0 hhi0
      have H6 := Lib.hid (And.intro ((hdm4.new hn5).new hn6) (And.intro (hn4.new (hn5.new hn6)) (And.intro hA3 (And.intro hQ (hch5.trans hn6 (fun _ _ h => h.elim))))))
      clear hb5 hn5 hz5 hdm4 hn4 hA3 hch5 hn6 hQ H4
      go_wp2_with fail
      go_loopw [12, 13] (fun a b wr => ∃ lo hi : Nat, a = .int .i64 lo ∧ b = .int .i64 hi ∧ lo ≤ Q ∧ Q ≤ hi ∧ hi ≤ 9999 ∧ Hid (New w6 wr)) (fun a b _ => (intOf b - intOf a).toNat)
      case atStart => exact ⟨lo0, hi0, rfl, rfl, hlo0, hhi0, hhi9, Chg.refl _ _⟩
      case round =>
        obtain ⟨wi, rfl⟩ : ∃ wi : World, wi = wr := ⟨_, rfl⟩
        obtain ⟨lo, hi, rfl, rfl, hlo, hhi, hh9, HN⟩ := hrel
        obtain ⟨hdmX, hn6, hA3, hQ, hch6⟩ := H6.out
        have hdmX2 := hdmX.new HN.out
        have hdmY := HY.out.old (hch6.trans HN.out (fun _ _ h => h.elim)) (by rw [HG.out]; exact Nat.le_refl _)
        have HXY := Lib.hid (And.intro hdmX2 hdmY)
        clear hdmX hn6 hA3 hQ hch6 hdmX2 hdmY
        by_cases hlt : lo < hi
        · have hlti : (lo : Int) < (hi : Int) := by omega
          obtain ⟨mid, hmid⟩ : ∃ mid, (lo + hi + 1) / 2 = mid := ⟨_, rfl⟩
          have hmi : ((lo : Int) + (hi : Int) + 1) / 2 = (mid : Int) := by omega
          have hm1 : lo < mid := by omega
          have hm2 : mid ≤ hi := by omega
          clear hmid
          go_wp2_with fail
          refine (small_any A' n' c' y mid wi HXY.out.2 (by omega) (by omega)).mono ?_
          rintro e w7 ⟨R7, m7, d7, rfl, hdm7, hn7⟩
          have H7 := Lib.hid (And.intro hdm7 hn7)
          clear hdm7 hn7
          go_wp2_with fail
          refine (compared_any R7 m7 d7 A3 T4 c3 (y * mid) X w7 H7.out.1 (HXY.out.1.new H7.out.2)).mono ?_
          rintro e w8 ⟨rfl, q8, hq8⟩
          have hn8 : New w6 w8 := by
            have := HN.out.new H7.out.2
            show Chg _ _ _
            rw [hq8]
            exact this.drewN q8
          have HN8 := Lib.hid hn8
          have hiff : y * mid ≤ X ↔ mid ≤ Q := by
            rw [← H6.out.2.2.2.1, Nat.le_div_iff_mul_le (by omega), Nat.mul_comm]
          clear hq8 hn8
          by_cases hc : mid ≤ Q
          · have hcv : decide (cmpI ((y * mid : Nat) : Int) (X : Int) ≤ 0) = true := by
              have := hiff.2 hc
              unfold cmpI
              split
              · decide
              · rw [if_neg (by omega)]; decide
            generalize cmpI ((y * mid : Nat) : Int) (X : Int) = cv at *
            clear hiff
            go_wp2
            go_roundw
            case rel => exact ⟨mid, hi, rfl, rfl, hc, hhi, hh9, HN8.out⟩
            case measure => simp [intOf]; omega
          · have hcv : decide (cmpI ((y * mid : Nat) : Int) (X : Int) ≤ 0) = false := by
              have : ¬ y * mid ≤ X := fun h => hc (hiff.1 h)
              rw [cmpI_gt (by omega)]
              decide
            generalize cmpI ((y * mid : Nat) : Int) (X : Int) = cv at *
            clear hiff
            go_wp2
            go_roundw
            case rel => exact ⟨lo, mid - 1, rfl, by go_num, hlo, by omega, by omega, HN8.out⟩
            case measure => simp [intOf]; omega
        · obtain rfl : lo = Q := by omega
          have hlti : decide ((lo : Int) < (hi : Int)) = false := by simp; omega
          have hlti' : decide (lo < hi) = false := by simp; omega
          go_wp2_with fail
          refine (small_any A' n' c' y lo wi HXY.out.2 (by omega) (by omega)).mono ?_
          rintro e w7 ⟨R7, m7, d7, rfl, hdm7, hn7⟩
          have H7 := Lib.hid (And.intro hdm7 hn7)
          clear hdm7 hn7
          have hle : y * lo ≤ X := by rw [← H6.out.2.2.2.1]; exact Nat.mul_div_le X y
          go_wp2_with fail
          refine (minus_any A3 T4 c3 R7 m7 d7 X (y * lo) w7 (HXY.out.1.new H7.out.2) H7.out.1 hle (by omega)).mono ?_
          rintro e w8 ⟨R8, m8, d8, rfl, ⟨l8, ho8, hd8, hv8⟩, hn8⟩
          have hcap8 := own_cap ho8
          have HN8 := Lib.hid (HN.out.new (H7.out.2.new hn8))
          have hsz8 : g < w7.heap.size := by
            have h1 := H6.out.2.1.size
            have h2 := HN.out.size
            have h3 := H7.out.2.size
            omega
          have H8 := Lib.hid (And.intro ho8 (And.intro hd8 (And.intro hv8 (And.intro hcap8 hn8))))
          clear ho8 hd8 hv8 hcap8 hn8 hle
          go_wp2_with fail
          obtain ⟨ho8, hd8, hv8, hcap8, hn8⟩ := H8.out
          refine (normal_dm R8 m8 d8 l8 w8 (Rd.of_own ho8) hd8 hcap8.1 hcap8.2).mono ?_
          rintro e w9 ⟨T9, rfl, hdm9, hT9, hn9⟩
          rw [hv8] at hdm9
          have hgR : blk R8 ≠ some g := fun e => by have := own_blk_le ho8 e; omega
          have hnow : New wo w9 := H6.out.2.1.new (HN8.out.new hn9)
          have hoW := own_chg HP.out.2.2.2.2.2.1 hnow (fun _ _ h => h)
          have hql : q.length = n := by have := HP.out.2.2.2.2.2.1.1; rw [nv_length] at this; omega
          obtain ⟨z, hz⟩ : ∃ z, q[i]? = some z := ⟨_, List.getElem?_eq_getElem (by omega)⟩
          have hcz := own_cell hoW (i := i) (u := .int .i64 (z : Nat)) (by rw [nv, List.getElem?_map, hz]; rfl)
          obtain ⟨gg, hgg, _, hgs, hfz⟩ := own_form hoW (by omega)
          have hgg' : g = gg := by simpa using hgg
          subst hgg'
          have hf := hfz i
          have HFin : Hid (DM w9 R8 T9 d8 (X - y * lo) ∧ w9.ownsRow g 3 1 (.slice (some ⟨g, 0, none⟩) n n) n (nv .i64 q) ∧ New wo w9) := ⟨hdm9, hoW, hnow⟩
          have HGR := Lib.hid hgR
          have hin : (i : Int) < (n : Int) := by omega
          have hinn : i < n := by omega
          clear ho8 hd8 hv8 hcap8 hn8 hdm9 hn9 hgR hnow hoW hql hz hgg hfz H8 HN8 HN H7 HXY
          go_wp2
          go_roundw
          case rel =>
            obtain ⟨hdm9, ho9, hn9⟩ := HFin.out
            obtain ⟨_, _, _, _, hstep, _, hch⟩ := HP.out
            have hset := own_set ho9 i (.int .i64 (lo : Int)) hinn
            rw [nv_set] at hset
            have hQ := H6.out.2.2.2.1
            rw [hQ] at hstep
            have hmod : X % y = X - y * lo := by rw [← hQ]; have := Nat.div_add_mod X y; omega
            rw [hmod] at hstep
            refine ⟨i, T9, d8, R8, rfl, rfl, by omega, q.set i lo, X - y * lo, hstep, hset.alloc _, ?_, fun _ => HGR.out, ?_⟩
            · exact (hdm9.chg ((Chg.refl (fun k => k = g) w9).setCell (p := ⟨g, i, none⟩) (fun _ => rfl) _) (fun k hk e => HGR.out (by rw [hk, e]))).new ((Chg.refl _ _).alloc _)
            · exact ((hch.trans (hn9.mono (fun _ _ h => h.elim)) (fun _ _ h => h)).setCell (fun _ => rfl) _).alloc _
          case measure => simp [intOf]
end Go.Proofs.Ytgofjkppeobjfaa

namespace Go.Proofs.Ytgofjkppeobjfaa
set_option linter.unusedVariables false
open Go.RowKit Go.Mem Go.Dig

/-- Quotient and rest by the amounts. -/
theorem ediv_pos' (s t : Bool) (X Y : Nat) (hY : 1 ≤ Y) (h : s = false ∨ X % Y = 0) : sg s X / sg t Y = sg (s != t) (X / Y : Nat) ∧ sg s X % sg t Y = ((X % Y : Nat) : Int) := by
  have hd := Nat.div_add_mod X Y
  have key : ∀ t : Bool, sg s X / (Y : Int) = sg s (X / Y : Nat) ∧ sg s X % (Y : Int) = ((X % Y : Nat) : Int) := by
    intro _
    rw [Int.ediv_emod_unique (by omega)]
    have hm := Nat.mod_lt X (show 0 < Y by omega)
    refine ⟨?_, by omega, by omega⟩
    rcases h with rfl | h
    · simp only [sg]
      have e : ((Y * (X / Y) + X % Y : Nat) : Int) = (X : Int) := by rw [hd]
      simp at e ⊢
      omega
    · rw [h] at hd ⊢
      have e : ((Y * (X / Y) + 0 : Nat) : Int) = (X : Int) := by rw [hd]
      cases s
      · simp [sg] at e ⊢; omega
      · simp [sg, Int.mul_neg] at e ⊢; omega
  obtain ⟨k1, k2⟩ := key true
  cases t
  · show sg s X / (Y : Int) = sg (s != false) (X / Y : Nat) ∧ sg s X % (Y : Int) = _
    rw [k1, k2]
    cases s <;> simp
  · show sg s X / (-(Y : Int)) = sg (s != true) (X / Y : Nat) ∧ sg s X % (-(Y : Int)) = _
    rw [Int.ediv_neg, Int.emod_neg, k1, k2]
    cases s <;> simp [sg]
theorem ediv_neg' (t : Bool) (X Y : Nat) (hY : 1 ≤ Y) (h : X % Y ≠ 0) : sg true X / sg t Y = sg (true != t) (X / Y + 1 : Nat) ∧ sg true X % sg t Y = ((Y - X % Y : Nat) : Int) := by
  have hd := Nat.div_add_mod X Y
  have hm := Nat.mod_lt X (show 0 < Y by omega)
  have key : sg true X / (Y : Int) = -((X / Y + 1 : Nat) : Int) ∧ sg true X % (Y : Int) = ((Y - X % Y : Nat) : Int) := by
    rw [Int.ediv_emod_unique (by omega)]
    refine ⟨?_, by omega, by omega⟩
    have e : ((Y * (X / Y) + X % Y : Nat) : Int) = (X : Int) := by rw [hd]
    simp only [sg]
    rw [Int.mul_neg, show ((Y : Int) * ((X / Y + 1 : Nat) : Int)) = (Y : Int) * (X / Y : Nat) + Y by rw [Int.natCast_add, Int.mul_add]; simp]
    rw [Int.natCast_add, Int.natCast_mul] at e
    simp only [if_true]
    omega
  obtain ⟨k1, k2⟩ := key
  cases t
  · show sg true X / (Y : Int) = sg (true != false) (X / Y + 1 : Nat) ∧ sg true X % (Y : Int) = _
    rw [k1, k2]
    simp [sg]
  · show sg true X / (-(Y : Int)) = sg (true != true) (X / Y + 1 : Nat) ∧ sg true X % (-(Y : Int)) = _
    rw [Int.ediv_neg, Int.emod_neg, k1, k2]
    simp [sg]

theorem one_lt_pow2 (k : Nat) (h : 0 < k) : 1 < 2 ^ k := Nat.one_lt_two_pow (by omega)
theorem sg_lt {s : Bool} {m k : Nat} (h : m < 2 ^ k) : (sg s m).natAbs < 2 ^ k := by rw [sg_abs]; exact h
theorem res_cc {P : Program} {fn : Func} {p q : Tmp} {ty ty2 : TypeId} {w : World} {g g2 : Nat} (h : fn.results = #[.cell p ty, .cell q ty2]) (tmps : Array Value) (hp : tmps.getD p undef = .pointer (some ⟨g, 0, none⟩)) {v v2 : Value} (hl : (loadVar ty ⟨g, 0, none⟩).run P w = .ok v w)
    (hq : tmps.getD q undef = .pointer (some ⟨g2, 0, none⟩)) (hl2 : (loadVar ty2 ⟨g2, 0, none⟩).run P w = .ok v2 w) : (results fn tmps).run P w = .ok (.tuple #[v, v2]) w := by
  have hp' : tmps[p]?.getD undef = .pointer (some ⟨g, 0, none⟩) := by simpa using hp
  have hq' : tmps[q]?.getD undef = .pointer (some ⟨g2, 0, none⟩) := by simpa using hq
  simp [results, h, hp', hq', asAddr, hl, hl2]
/-- Two structs are stored, one behind the other. -/
def set22 (W : World) (g g' : Nat) (p q r u : Value) : World := (((W.setCell ⟨g, 0, none⟩ p).setCell ⟨g, 1, none⟩ q).setCell ⟨g', 0, none⟩ r).setCell ⟨g', 1, none⟩ u
theorem blk22 {W : World} {g g' : Nat} {t t' : TypeId} {a b c d : Value} (h : Blk W g t #[a, b]) (h' : Blk W g' t' #[c, d]) (hne : g ≠ g') (p q r u : Value) : Blk (set22 W g g' p q r u) g t #[p, q] ∧ Blk (set22 W g g' p q r u) g' t' #[r, u] :=
  ⟨((h.set2 p q).far (p := ⟨g', 0, none⟩) hne r).far (p := ⟨g', 1, none⟩) hne u, ((h'.far (p := ⟨g, 0, none⟩) (fun e => hne e.symm) p).far (p := ⟨g, 1, none⟩) (fun e => hne e.symm) q).set2 r u⟩
theorem chg22 (W : World) (g g' : Nat) (p q r u : Value) : Chg (fun k => k = g ∨ k = g') W (set22 W g g' p q r u) :=
  ((((Chg.refl _ W).setCell (p := ⟨g, 0, none⟩) (fun _ => .inl rfl) p).setCell (p := ⟨g, 1, none⟩) (fun _ => .inl rfl) q).setCell (p := ⟨g', 0, none⟩) (fun _ => .inr rfl) r).setCell (p := ⟨g', 1, none⟩) (fun _ => .inr rfl) u
theorem DM.store22 {W : World} {A : Option Addr} {n k m g g' : Nat} {t t' : TypeId} {a b c d : Value} (hm : DM W A n k m) (h : Blk W g t #[a, b]) (h' : Blk W g' t' #[c, d]) (hne : g ≠ g') (hi : NoInt [a, b]) (hi' : NoInt [c, d]) (p q r u : Value) : DM (set22 W g g' p q r u) A n k m :=
  (hm.store h hi (Chg.at2 W g p q)).store ((h'.far (p := ⟨g, 0, none⟩) (fun e => hne e.symm) p).far (p := ⟨g, 1, none⟩) (fun e => hne e.symm) q) hi' (Chg.at2 _ g' r u)

set_option maxRecDepth 100000 in
set_option maxHeartbeats 4000000 in
theorem rdiv_dm (s s' : Bool) (A : Option Addr) (n c : Nat) (A' : Option Addr) (n' c' : Nat) (x y : Nat) (w : World) (hx : DM w A n c x) (hy : DM w A' n' c' y) (hn : n ≤ 1000000) (hn' : n' ≤ 900000) (hy1 : 1 ≤ y) (bx : x < 2 ^ 1000000) :
    Calls Try.prog 41 #[.agg #[.bool s, .slice A n c], .agg #[.bool s', .slice A' n' c']] w fun e w' => ∃ v v', e = .returned (.tuple #[v, v']) ∧ RN w' v (sg s x / sg s' y) ∧ RN w' v' (sg s x % sg s' y) ∧ New w w' := by
  obtain ⟨ZQ, hZQ⟩ : ∃ Z, sg s x / sg s' y = Z := ⟨_, rfl⟩
  obtain ⟨ZR, hZR⟩ : ∃ Z, sg s x % sg s' y = Z := ⟨_, rfl⟩
  rw [hZQ, hZR]
  have HZ := Lib.hid (And.intro hZQ hZR)
  have H0 := Lib.hid (And.intro hx (And.intro hy bx))
  clear hx hy bx hZQ hZR
  go_enter Try.func41, Try.ntmps41
  go_wp2_with fail
  refine Calls.new4 ?_
  intro W hb1 hb2 hb3 hb4 hnW hzW
  refine (divided_any A n c A' n' c' x y W (H0.out.1.new hnW) (H0.out.2.1.new hnW) hn hn' hy1).mono ?_
  rintro e w1 ⟨Q, kq, dq, R, mr, dr, rfl, ⟨lq, hoq, hdq, hvq⟩, hdr, hn1⟩
  have hc1 := hb1.chg hn1 (fun h => h)
  have hc2 := hb2.chg hn1 (fun h => h)
  have ha0 := hc1.cell 0 (u := .bool s) rfl
  have hb0 := hc2.cell 0 (u := .bool s') rfl
  have H1 := Lib.hid (And.intro hc1 (And.intro hc2 (And.intro (hb3.chg hn1 (fun h => h)) (And.intro (hb4.chg hn1 (fun h => h)) (And.intro (hnW.new hn1) (And.intro hdr (And.intro hoq (And.intro hdq hvq))))))))
  clear hb1 hb2 hb3 hb4 hnW hzW hoq hdq hvq hdr hn1 hc1 hc2
  go_wp2_with fail
  obtain ⟨hc1, hc2, hc3, hc4, hnw, hdr, hoq, hdq, hvq⟩ := H1.out
  have hcapq := own_cap hoq
  refine (normal_rn (s != s') Q kq dq lq w1 (Rd.of_own hoq) hdq hcapq.1 hcapq.2).mono ?_
  rintro e w2 ⟨v2, rfl, ⟨s2, A2, n2, c2, rfl, hs2, hm2⟩, hn2⟩
  rw [hvq] at hs2 hm2
  have H2 := Lib.hid (And.intro (hc1.chg hn2 (fun h => h)) (And.intro (hc2.chg hn2 (fun h => h)) (And.intro (hc3.chg hn2 (fun h => h)) (And.intro (hc4.chg hn2 (fun h => h)) (And.intro (hnw.new hn2) (And.intro (hdr.new hn2) (And.intro hs2 hm2)))))))
  clear hc1 hc2 hc3 hc4 hnw hdr hoq hdq hvq hcapq hs2 hm2 hn2 H1 ha0 hb0
  go_wp2_with fail
  refine Calls.new1 ?_
  intro W3 hb5 hn3 hz3
  obtain ⟨hc1, hc2, hc3, hc4, hnw, hdr, hs2, hm2⟩ := H2.out
  obtain ⟨lr, hrr, hrc, hrm, hNr⟩ := hdr.new hn3
  refine (normal_dm R mr dr lr W3 hrr hNr.digs hrc hrm).mono ?_
  rintro e w4 ⟨T4, rfl, hdm4, _, hn4⟩
  rw [hNr.val] at hdm4
  have hd1 := (hc1.chg hn3 (fun h => h)).chg hn4 (fun h => h)
  have ha0 := hd1.cell 0 (u := .bool s) rfl
  have hd2 := (hc2.chg hn3 (fun h => h)).chg hn4 (fun h => h)
  have hd5 := hb5.chg hn4 (fun h => h)
  have hdb := hd1.lt
  have hdb2 : w.heap.size + 1 + 1 + 1 < w2.heap.size := hc4.lt
  have hdb3 : w2.heap.size < w4.heap.size := hd5.lt
  have hpos := hdm4.pos
  have H4 := Lib.hid (And.intro hd1 (And.intro hd2 (And.intro ((hc3.chg hn3 (fun h => h)).chg hn4 (fun h => h)) (And.intro ((hc4.chg hn3 (fun h => h)).chg hn4 (fun h => h)) (And.intro hd5 (And.intro (hnw.new (hn3.new hn4)) (And.intro hs2 (And.intro ((hm2.new hn3).new hn4) (And.intro hdm4 hpos)))))))))
  clear hb5 hn3 hz3 hc1 hc2 hc3 hc4 hnw hdr hs2 hm2 hrr hrc hrm hNr hdm4 hn4 hd1 hd2 hd5 hpos H2
  by_cases hcase : s = true ∧ 0 < T4
  · obtain ⟨rfl, hT⟩ := hcase
    have hval : sg true x / sg s' y = sg (true != s') (x / y + 1 : Nat) ∧ sg true x % sg s' y = ((y - x % y : Nat) : Int) := by
      refine ediv_neg' s' x y hy1 (fun h => ?_)
      have := H4.out.2.2.2.2.2.2.2.2.2.2 h
      omega
    rw [HZ.out.1, HZ.out.2] at hval
    have HV := Lib.hid hval
    clear hval HZ
    have hbn : (true != s') = !s' := by cases s' <;> rfl
    rw [hbn] at H4 HV
    clear hbn
    have hTi : (0 : Int) < (T4 : Int) := by omega
    have hb0 := H4.out.2.1.cell 0 (u := .bool s') rfl
    have hdb4 : w.heap.size + 1 < w4.heap.size := H4.out.2.1.lt
    go_wp2_with fail
    refine Calls.new2 ?_
    intro W5 hb6 hb7 hn5 hz5
    obtain ⟨hd1, hd2, hd3, hd4, hd5, hnw, hs2, hm2, hdm4, hpos⟩ := H4.out
    have hr7 : Rd W5 (some ⟨w4.heap.size + 1, 0, none⟩) 1 (nv .i64 [1]) := ⟨rfl, fun _ => ⟨_, rfl, fun j u hu => by rw [Addr.add_lit, Nat.zero_add]; exact hb7.cell j (by simpa [nv] using hu)⟩⟩
    refine (normal_rn (!s') _ 1 1 [1] W5 hr7 (Digs.cons (by omega) (Digs.nil _)) (by omega) (by omega)).mono ?_
    rintro e w6 ⟨v6, rfl, ⟨s6, A6, n6, c6, rfl, hs6, hm6⟩, hn6⟩
    rw [show val 10000 [1] = 1 from rfl] at hs6 hm6
    have hn56 := hn5.new hn6
    have e5 := hd5.chg hn56 (fun h => h)
    have k50 := e5.cell 0 (u := .bool s2) rfl
    have k51 := e5.cell 1 (u := .slice A2 n2 c2) rfl
    have f50 := e5.frozen 0
    have f51 := e5.frozen 1
    have hl5 : w2.heap.size < w6.heap.size := e5.lt
    have H6 := Lib.hid (And.intro (hd2.chg hn56 (fun h => h)) (And.intro (hd3.chg hn56 (fun h => h)) (And.intro (hd4.chg hn56 (fun h => h)) (And.intro e5 (And.intro (hb6.chg hn6 (fun h => h)) (And.intro (hnw.new hn56) (And.intro hs2 (And.intro (hm2.new hn56) (And.intro (hdm4.new hn56) (And.intro hs6 hm6))))))))))
    clear hb6 hb7 hn5 hz5 hd1 hd2 hd3 hd4 hd5 hnw hs2 hm2 hdm4 hpos hr7 hs6 hm6 hn6 hn56 e5 H4 ha0 hb0
    go_wp2_with fail
    refine Calls.new1 ?_
    intro W7 hb8 hn7 hz7
    obtain ⟨g2, g3, g4, g5, g6, hnw, hs2, hm2, hdm4, hs6, hm6⟩ := H6.out
    have hx1 : 1 ≤ x := by
      rcases Nat.eq_zero_or_pos x with h | h
      · have := hdm4.pos.2 (by rw [h]; simp)
        omega
      · exact h
    have hq0 : x / y < 2 ^ 1000000 := Nat.lt_of_le_of_lt (Nat.div_le_self _ _) H0.out.2.2
    refine (radd_any _ _ (sg (!s') (x / y : Nat)) (sg (!s') (1 : Nat)) W7 ⟨s2, A2, n2, c2, rfl, hs2, hm2.new hn7⟩ ⟨s6, A6, n6, c6, rfl, hs6, hm6.new hn7⟩ (sg_lt (k := 1000000) hq0) (sg_lt (k := 1000000) (Nat.lt_of_le_of_lt hx1 H0.out.2.2))).mono ?_
    rintro e w8 ⟨v8, rfl, ⟨s8, A8, n8, c8, rfl, hs8, hm8⟩, hn8⟩
    have hsum : sg (!s') (x / y : Nat) + sg (!s') (1 : Nat) = sg (!s') (x / y + 1 : Nat) := by
      unfold sg
      split <;> omega
    rw [hsum] at hs8 hm8
    have hn78 := hn7.new hn8
    have q2 := g2.chg hn78 (fun h => h)
    have q5 := g5.chg hn78 (fun h => h)
    have q6 := g6.chg hn78 (fun h => h)
    have k50 := q5.cell 0 (u := .bool s2) rfl
    have k51 := q5.cell 1 (u := .slice A2 n2 c2) rfl
    have f50 := q5.frozen 0
    have f51 := q5.frozen 1
    have k21 := q2.cell 1 (u := .slice A' n' c') rfl
    have k61 := q6.cell 1 (u := .slice R T4 dr) rfl
    have hne1 : w.heap.size + 1 ≠ w2.heap.size := by omega
    have hne2 : w4.heap.size ≠ w2.heap.size := by omega
    have hT7 : T4 ≤ 900000 := by
      obtain ⟨lr', h1, _, _, hN1⟩ := hdm4
      obtain ⟨lb, hb, _, _, hNb⟩ := H0.out.2.1
      have hlb : lb.length = n' := by have := hb.len; rwa [nv_length] at this
      have hlr : lr'.length = T4 := by have := h1.len; rwa [nv_length] at this
      rcases Nat.lt_or_ge n' T4 with h | h
      · have h5 := hNb.len_lt (by omega) hN1 (by omega)
        have := Nat.mod_lt x (show 0 < y by omega)
        omega
      · omega
    have H8 := Lib.hid (And.intro (g3.chg hn78 (fun h => h)) (And.intro (g4.chg hn78 (fun h => h)) (And.intro q5 (And.intro q6 (And.intro (hnw.new hn78) (And.intro hs8 (And.intro hm8 (And.intro (hdm4.new hn78) (H0.out.2.1.new (hnw.new hn78))))))))))
    clear hb8 hn7 hz7 g2 g3 g4 g5 g6 hnw hs2 hm2 hdm4 hs6 hm6 hq0 hs8 hm8 hn8 hn78 q2 q5 q6 hsum H6 hl5
    go_wp2_with fail
    obtain ⟨g3, g4, g5, g6, hnw, hs8, hm8, hdm4, hdy⟩ := H8.out
    have hcs : Chg (fun k => k = w2.heap.size) w8 ((w8.setCell ⟨w2.heap.size, 0, none⟩ (.bool s8)).setCell ⟨w2.heap.size, 1, none⟩ (.slice A8 n8 c8)) := Chg.at2 _ _ _ _
    have hm8' := hm8.store g5 (noInt_two' _ _ _ _) hcs
    have hdm4' := hdm4.store g5 (noInt_two' _ _ _ _) hcs
    have hdy' := hdy.store g5 (noInt_two' _ _ _ _) hcs
    have g5' := g5.set2 (.bool s8) (.slice A8 n8 c8)
    have g3' := g3.chg hcs (by omega)
    have g4' := g4.chg hcs (by omega)
    have g6' := g6.chg hcs (by omega)
    have hnw' : New w _ := Chg.owned hnw hcs (fun k e => by omega)
    generalize ((w8.setCell ⟨w2.heap.size, 0, none⟩ (.bool s8)).setCell ⟨w2.heap.size, 1, none⟩ (.slice A8 n8 c8)) = W9 at *
    refine (minus_any A' n' c' R T4 dr y (x % y) W9 hdy' hdm4' (Nat.le_of_lt (Nat.mod_lt _ (by omega))) (by omega)).mono ?_
    rintro e wa ⟨Ra, ma, da, rfl, ⟨lra, hoa, hda, hva⟩, hna⟩
    have Ha := Lib.hid (And.intro (g3'.chg hna (fun h => h)) (And.intro (g4'.chg hna (fun h => h)) (And.intro (g5'.chg hna (fun h => h)) (And.intro (g6'.chg hna (fun h => h)) (And.intro (hnw'.new hna) (And.intro hs8 (And.intro (hm8'.new hna) (And.intro hoa (And.intro hda hva)))))))))
    clear g3 g4 g5 g6 hnw hs8 hm8 hdm4 hdy hcs hm8' hdm4' hdy' g5' g3' g4' g6' hnw' hoa hda hva hna H8 k50 k51 f50 f51 k21 k61
    go_wp2_with fail
    obtain ⟨p3, p4, p5, p6, hnw, hs8, hm8, hoa, hda, hva⟩ := Ha.out
    have hcapa := own_cap hoa
    refine (normal_dm Ra ma da lra wa (Rd.of_own hoa) hda hcapa.1 hcapa.2).mono ?_
    rintro e wb ⟨Tb, rfl, hdmb, _, hnb⟩
    rw [hva] at hdmb
    have e3 := p3.chg hnb (fun h => h)
    have e4 := p4.chg hnb (fun h => h)
    have e5 := p5.chg hnb (fun h => h)
    have e6 := p6.chg hnb (fun h => h)
    have k30 := e3.cell 0 (u := .bool false) rfl
    have k31 := e3.cell 1 (u := .slice none 0 0) rfl
    have k40 := e4.cell 0 (u := .bool false) rfl
    have k41 := e4.cell 1 (u := .slice none 0 0) rfl
    have k50 := e5.cell 0 (u := .bool s8) rfl
    have k51 := e5.cell 1 (u := .slice A8 n8 c8) rfl
    have k60 := e6.cell 0 (u := .bool false) rfl
    have k61 := e6.cell 1 (u := .slice R T4 dr) rfl
    have f30 := e3.frozen 0
    have f31 := e3.frozen 1
    have f40 := e4.frozen 0
    have f41 := e4.frozen 1
    have f60 := e6.frozen 0
    have f61 := e6.frozen 1
    have Hb := Lib.hid (And.intro e3 (And.intro e4 (And.intro e5 (And.intro e6 (And.intro (hnw.new hnb) (And.intro hs8 (And.intro (hm8.new hnb) hdmb)))))))
    have hne1 : w.heap.size + 1 + 1 ≠ w2.heap.size := by omega
    have hne2' : w.heap.size + 1 + 1 + 1 ≠ w2.heap.size := by omega
    have hne3 : w.heap.size + 1 + 1 ≠ w4.heap.size := by omega
    have hne4 : w.heap.size + 1 + 1 + 1 ≠ w4.heap.size := by omega
    clear p3 p4 p5 p6 hnw hs8 hm8 hoa hda hva hcapa hdmb hnb e3 e4 e5 e6 Ha
    go_wp2_with fail
    have hc6 : Chg (fun k => k = w4.heap.size) wb ((wb.setCell ⟨w4.heap.size, 0, none⟩ (.bool false)).setCell ⟨w4.heap.size, 1, none⟩ (.slice Ra Tb da)) := Chg.at2 _ _ _ _
    obtain ⟨e3, e4, e5, e6, hnw, hs8, hm8, hdmb⟩ := Hb.out
    have r3 := e3.chg hc6 (by omega)
    have r4 := e4.chg hc6 (by omega)
    have r6 := e6.set2 (.bool false) (.slice Ra Tb da)
    have hm8' := hm8.store e6 (noInt_two' _ _ _ _) hc6
    have hdmb' := hdmb.store e6 (noInt_two' _ _ _ _) hc6
    have hnw' : New w _ := Chg.owned hnw hc6 (fun k e => by omega)
    have r5 := e5.chg hc6 (by omega)
    generalize ((wb.setCell ⟨w4.heap.size, 0, none⟩ (.bool false)).setCell ⟨w4.heap.size, 1, none⟩ (.slice Ra Tb da)) = Wz at *
    have k30 := r3.cell 0 (u := .bool false) rfl
    have k31 := r3.cell 1 (u := .slice none 0 0) rfl
    have k40 := r4.cell 0 (u := .bool false) rfl
    have k41 := r4.cell 1 (u := .slice none 0 0) rfl
    have k50 := r5.cell 0 (u := .bool s8) rfl
    have k51 := r5.cell 1 (u := .slice A8 n8 c8) rfl
    have k60 := r6.cell 0 (u := .bool false) rfl
    have k61 := r6.cell 1 (u := .slice Ra Tb da) rfl
    have f30 := r3.frozen 0
    have f31 := r3.frozen 1
    have f40 := r4.frozen 0
    have f41 := r4.frozen 1
    have HF := Lib.hid (And.intro r3 (And.intro r4 (And.intro hnw' (And.intro hs8 (And.intro hm8' hdmb')))))
    clear hc6 e3 e4 e5 e6 hnw hs8 hm8 hdmb r3 r4 r5 r6 hm8' hdmb' hnw' Hb f60 f61
    go_region
    all_goals
      go_wp2
      obtain ⟨e3, e4, hnw, hs8, hm8, hdmb⟩ := HF.out
      have hg : w.heap.size + 1 + 1 ≠ w.heap.size + 1 + 1 + 1 := by omega
      obtain ⟨r3, r4⟩ := blk22 e3 e4 hg (.bool s8) (.slice A8 n8 c8) (.bool false) (.slice Ra Tb da)
      refine bodyPost_ret (res_cc rfl _ rfl (aggN.load (Blk.drew r3)) rfl (aggN.load (Blk.drew r4))) rfl ⟨_, _, rfl, ⟨s8, A8, n8, c8, rfl, by rw [HV.out.1]; exact hs8, ?_⟩, ⟨false, Ra, Tb, da, rfl, by rw [HV.out.2]; exact (decide_eq_false (Int.not_lt.2 (Int.natCast_nonneg _))).symm, ?_⟩, ?_⟩
      · rw [HV.out.1]; exact (hm8.store22 e3 e4 hg (noInt_two' _ _ _ _) (noInt_two' _ _ _ _) _ _ _ _).new ((Chg.refl _ _).drew)
      · rw [HV.out.2, Int.natAbs_natCast]; exact (hdmb.store22 e3 e4 hg (noInt_two' _ _ _ _) (noInt_two' _ _ _ _) _ _ _ _).new ((Chg.refl _ _).drew)
      · exact Chg.owned hnw (chg22 Wz _ _ _ _ _ _).drew (fun k e => by omega)
  · have hval : sg s x / sg s' y = sg (s != s') (x / y : Nat) ∧ sg s x % sg s' y = ((x % y : Nat) : Int) := by
      refine ediv_pos' s s' x y hy1 ?_
      cases s
      · exact .inl rfl
      · right
        have : T4 = 0 := by
          rcases Nat.eq_zero_or_pos T4 with h | h
          · exact h
          · exact absurd ⟨rfl, h⟩ hcase
        exact H4.out.2.2.2.2.2.2.2.2.2.1 this
    rw [HZ.out.1, HZ.out.2] at hval
    have HV := Lib.hid hval
    clear hval HZ
    cases s
    · go_wp2_with fail
      refine Code.new1 ?_
      intro W5 hb6 hn5 hz5
      obtain ⟨hd1, hd2, hd3, hd4, hd5, hnw, hs2, hm2, hdm4, hpos⟩ := H4.out
      have e3 := hd3.chg hn5 (fun h => h)
      have e4 := hd4.chg hn5 (fun h => h)
      have e5 := hd5.chg hn5 (fun h => h)
      have k30 := e3.cell 0 (u := .bool false) rfl
      have k31 := e3.cell 1 (u := .slice none 0 0) rfl
      have k40 := e4.cell 0 (u := .bool false) rfl
      have k41 := e4.cell 1 (u := .slice none 0 0) rfl
      have k50 := e5.cell 0 (u := .bool s2) rfl
      have k51 := e5.cell 1 (u := .slice A2 n2 c2) rfl
      have k60 := hb6.cell 0 (u := .bool false) rfl
      have k61 := hb6.cell 1 (u := .slice R T4 dr) rfl
      have f30 := e3.frozen 0
      have f31 := e3.frozen 1
      have f40 := e4.frozen 0
      have f41 := e4.frozen 1
      have HF := Lib.hid (And.intro e3 (And.intro e4 (And.intro (hnw.new hn5) (And.intro hs2 (And.intro (hm2.new hn5) (And.intro (hdm4.new hn5) hpos))))))
      have hne1 : w.heap.size + 1 + 1 ≠ w2.heap.size := by omega
      have hne2 : w.heap.size + 1 + 1 + 1 ≠ w2.heap.size := by omega
      have hne3 : w.heap.size + 1 + 1 ≠ w4.heap.size := by omega
      have hne4 : w.heap.size + 1 + 1 + 1 ≠ w4.heap.size := by omega
      clear hd1 hd2 hd3 hd4 hd5 hnw hs2 hm2 hdm4 hpos hn5 hz5 hb6 e3 e4 e5 H4
      go_region
      all_goals
        go_wp2
        obtain ⟨e3, e4, hnw, hs2, hm2, hdm4, hpos⟩ := HF.out
        have hg : w.heap.size + 1 + 1 ≠ w.heap.size + 1 + 1 + 1 := by omega
        obtain ⟨r3, r4⟩ := blk22 e3 e4 hg (.bool s2) (.slice A2 n2 c2) (.bool false) (.slice R T4 dr)
        refine bodyPost_ret (res_cc rfl _ rfl (aggN.load (Blk.drew r3)) rfl (aggN.load (Blk.drew r4))) rfl ⟨_, _, rfl, ⟨s2, A2, n2, c2, rfl, by rw [HV.out.1]; exact hs2, ?_⟩, ⟨false, R, T4, dr, rfl, by rw [HV.out.2]; exact (decide_eq_false (Int.not_lt.2 (Int.natCast_nonneg _))).symm, ?_⟩, ?_⟩
        · rw [HV.out.1]; exact (hm2.store22 e3 e4 hg (noInt_two' _ _ _ _) (noInt_two' _ _ _ _) _ _ _ _).new ((Chg.refl _ _).drew)
        · rw [HV.out.2, Int.natAbs_natCast]; exact (hdm4.store22 e3 e4 hg (noInt_two' _ _ _ _) (noInt_two' _ _ _ _) _ _ _ _).new ((Chg.refl _ _).drew)
        · exact Chg.owned hnw (chg22 W5 _ _ _ _ _ _).drew (fun k e => by omega)
    · have hT0 : T4 = 0 := by
        rcases Nat.eq_zero_or_pos T4 with h | h
        · exact h
        · exact absurd ⟨rfl, h⟩ hcase
      subst hT0
      clear hcase
      go_wp2_with fail
      refine Code.new1 ?_
      intro W5 hb6 hn5 hz5
      obtain ⟨hd1, hd2, hd3, hd4, hd5, hnw, hs2, hm2, hdm4, hpos⟩ := H4.out
      have e3 := hd3.chg hn5 (fun h => h)
      have e4 := hd4.chg hn5 (fun h => h)
      have e5 := hd5.chg hn5 (fun h => h)
      have k30 := e3.cell 0 (u := .bool false) rfl
      have k31 := e3.cell 1 (u := .slice none 0 0) rfl
      have k40 := e4.cell 0 (u := .bool false) rfl
      have k41 := e4.cell 1 (u := .slice none 0 0) rfl
      have k50 := e5.cell 0 (u := .bool s2) rfl
      have k51 := e5.cell 1 (u := .slice A2 n2 c2) rfl
      have k60 := hb6.cell 0 (u := .bool false) rfl
      have k61 := hb6.cell 1 (u := .slice R 0 dr) rfl
      have f30 := e3.frozen 0
      have f31 := e3.frozen 1
      have f40 := e4.frozen 0
      have f41 := e4.frozen 1
      have HF := Lib.hid (And.intro e3 (And.intro e4 (And.intro (hnw.new hn5) (And.intro hs2 (And.intro (hm2.new hn5) (And.intro (hdm4.new hn5) hpos))))))
      have hne1 : w.heap.size + 1 + 1 ≠ w2.heap.size := by omega
      have hne2 : w.heap.size + 1 + 1 + 1 ≠ w2.heap.size := by omega
      have hne3 : w.heap.size + 1 + 1 ≠ w4.heap.size := by omega
      have hne4 : w.heap.size + 1 + 1 + 1 ≠ w4.heap.size := by omega
      clear hd1 hd2 hd3 hd4 hd5 hnw hs2 hm2 hdm4 hpos hn5 hz5 hb6 e3 e4 e5 H4
      go_region
      all_goals
        go_wp2
        obtain ⟨e3, e4, hnw, hs2, hm2, hdm4, hpos⟩ := HF.out
        have hg : w.heap.size + 1 + 1 ≠ w.heap.size + 1 + 1 + 1 := by omega
        obtain ⟨r3, r4⟩ := blk22 e3 e4 hg (.bool s2) (.slice A2 n2 c2) (.bool false) (.slice R 0 dr)
        refine bodyPost_ret (res_cc rfl _ rfl (aggN.load (Blk.drew r3)) rfl (aggN.load (Blk.drew r4))) rfl ⟨_, _, rfl, ⟨s2, A2, n2, c2, rfl, by rw [HV.out.1]; exact hs2, ?_⟩, ⟨false, R, 0, dr, rfl, by rw [HV.out.2]; exact (decide_eq_false (Int.not_lt.2 (Int.natCast_nonneg _))).symm, ?_⟩, ?_⟩
        · rw [HV.out.1]; exact (hm2.store22 e3 e4 hg (noInt_two' _ _ _ _) (noInt_two' _ _ _ _) _ _ _ _).new ((Chg.refl _ _).drew)
        · rw [HV.out.2, Int.natAbs_natCast]; exact (hdm4.store22 e3 e4 hg (noInt_two' _ _ _ _) (noInt_two' _ _ _ _) _ _ _ _).new ((Chg.refl _ _).drew)
        · exact Chg.owned hnw (chg22 W5 _ _ _ _ _ _).drew (fun k e => by omega)

theorem rdiv_any (v v' : Value) (x y : Int) (w : World) (hx : RN w v x) (hy : RN w v' y) (bx : x.natAbs < 2 ^ 1000000) (bY : y.natAbs < 2 ^ 900000) (hy0 : y ≠ 0) :
    Calls Try.prog 41 #[v, v'] w fun e w' => ∃ v v', e = .returned (.tuple #[v, v']) ∧ RN w' v (x / y) ∧ RN w' v' (x % y) ∧ New w w' := by
  obtain ⟨s, A, n, c, rfl, hs, hm⟩ := hx
  obtain ⟨s', A', n', c', rfl, hs', hm'⟩ := hy
  have h := rdiv_dm s s' A n c A' n' c' _ _ w hm hm' (bz_len hm bx) (bz_len hm' bY) (by omega) bx
  rw [hs, hs', sg_of, sg_of] at h
  rw [hs, hs']
  exact h
end Go.Proofs.Ytgofjkppeobjfaa

namespace Go.Proofs.Ytgofjkppeobjfaa
set_option linter.unusedVariables false
open Go.RowKit Go.Mem Go.Dig Go.Pure
theorem pow_le3 (a b : Nat) (h : a ≤ b) : 2 ^ a ≤ 2 ^ b := Nat.pow_le_pow_right (by omega) h

/-- The words of a stream from an index on, as digits. -/
def wordsL (seed : Int) (lab : List UInt8) (at_ : Int) (k : Nat) : List Nat := (List.range k).map (fun e : Nat => (wordI seed lab (at_ + e)).toNat)
theorem wordsL_len (seed : Int) (lab : List UInt8) (at_ : Int) (k : Nat) : (wordsL seed lab at_ k).length = k := by simp [wordsL]
theorem wordsL_at (seed : Int) (lab : List UInt8) (at_ : Int) {k e : Nat} (h : e < k) : (wordsL seed lab at_ k)[e]? = some (wordI seed lab (at_ + e)).toNat := by
  unfold wordsL
  rw [List.getElem?_map, List.getElem?_range h]
  rfl
theorem wordI_range (seed : Int) (lab : List UInt8) (i : Int) : 0 ≤ wordI seed lab i ∧ wordI seed lab i ≤ 18446744073709551615 := sumI_range' _ _
theorem wordsL_digs (seed : Int) (lab : List UInt8) (at_ : Int) (k : Nat) : Digs 18446744073709551616 (wordsL seed lab at_ k) := by
  intro d hd
  obtain ⟨e, _, rfl⟩ := List.mem_map.1 hd
  have := wordI_range seed lab (at_ + e)
  omega
theorem words_big {l : List Nat} (h : Digs 18446744073709551616 l) (hl : l.length ≤ 300) : ((val 18446744073709551616 l : Nat) : Int).natAbs < 2 ^ 1000000 := by
  rw [Int.natAbs_natCast]
  refine Nat.lt_of_lt_of_le (val_lt h) ?_
  rw [show 18446744073709551616 = 2 ^ 64 from rfl, ← Nat.pow_mul]
  exact pow_le3 _ 1000000 (by omega)
theorem words_big64 {l : List Nat} (h : Digs 18446744073709551616 l) (hl : l.length ≤ 300) : ((val 18446744073709551616 l : Int) * ((2 ^ 64 : Nat) : Int)).natAbs < 2 ^ 1000000 := by
  rw [← Int.natCast_mul, Int.natAbs_natCast]
  have h1 := val_lt h
  rw [show 18446744073709551616 = 2 ^ 64 from rfl, ← Nat.pow_mul] at h1
  refine Nat.lt_of_lt_of_le (Nat.mul_lt_mul_of_pos_right h1 (by decide)) ?_
  rw [← Nat.pow_add]
  exact pow_le3 _ 1000000 (by omega)

/-- Which try is taken: the first whose number is below the bound, at most 64 of them. -/
structure Taken (X : Nat → Nat) (bound t : Nat) : Prop where
  le : t ≤ 63
  skip : ∀ j, j < t → ¬ X j < bound
  stop : X t < bound ∨ t = 63
theorem Taken.uniq {X : Nat → Nat} {b t u : Nat} (h : Taken X b t) (h' : Taken X b u) : t = u := by
  rcases Nat.lt_trichotomy t u with h1 | h1 | h1
  · rcases h.stop with h2 | h2
    · exact absurd h2 (h'.skip t h1)
    · have := h'.le; omega
  · exact h1
  · rcases h'.stop with h2 | h2
    · exact absurd h2 (h.skip u h1)
    · have := h.le; omega
/-- The number that k words from try t on lead to. -/
def tryN (seed : Int) (lab : List UInt8) (i : Int) (k : Nat) (t : Nat) : Nat := val 18446744073709551616 (wordsL seed lab (i + (t * k : Nat)) k)
theorem pow_lt_K (a K : Nat) (h : a < K) : 2 ^ a < 2 ^ K := Nat.pow_lt_pow_right (by omega) h
theorem tryN_big (seed : Int) (lab : List UInt8) (i : Int) {k : Nat} (hk : k ≤ 300) (t : Nat) : ((tryN seed lab i k t : Nat) : Int).natAbs < 2 ^ 1000000 := words_big (wordsL_digs _ _ _ _) (by rw [wordsL_len]; exact hk)

end Go.Proofs.Ytgofjkppeobjfaa

namespace Go.Proofs.Ytgofjkppeobjfaa
set_option linter.unusedVariables false
open Go.RowKit Go.Mem Go.Dig Go.Pure

theorem shl_or32 (w c : Nat) (hw : w < 4294967296) (hc : c < 4294967296) : bits .or .u64 ((w : Int) * 4294967296) (c : Int) = ((w * 4294967296 + c : Nat) : Int) := by
  have e : (w : Int) * 4294967296 = ((w * 4294967296 : Nat) : Int) := by omega
  rw [e, u64_or_nat _ _ (by omega) (by omega)]
  have := Nat.shiftLeft_add_eq_or_of_lt (show c < 2 ^ 32 by omega) w
  rw [Nat.shiftLeft_eq] at this
  rw [show w * 4294967296 = w * 2 ^ 32 by rfl, ← this]

set_option maxRecDepth 100000 in
set_option maxHeartbeats 2000000 in
theorem divWord_any (A : Option Addr) (n c : Nat) (x d : Nat) (w : World) (hx : WM w A n c x) (hn : n ≤ 1000000) (hd1 : 1 ≤ d) (hd2 : d < 4294967296) :
    Calls Try.prog 50 #[.slice A n c, .int .u32 d] w fun e w' => ∃ l g, e = .returned (.tuple #[.slice (some ⟨g, 0, none⟩) n n, .int .u32 ((x % d : Nat) : Int)]) ∧ Hid (Rd w' (some ⟨g, 0, none⟩) n (nv .u32 l) ∧ Digs 4294967296 l ∧ val 4294967296 l = x / d ∧ w.heap.size ≤ g ∧ New w w') := by
  obtain ⟨la, ha, hc1, hc2, hNa⟩ := hx
  have hla : la.length = n := by have := ha.len; rwa [nv_length] at this
  obtain ⟨XR, hXR⟩ : ∃ r, x % d = r := ⟨_, rfl⟩
  rw [hXR]
  have H0 := Lib.hid (And.intro ha (And.intro hNa (And.intro hla hXR)))
  clear ha hNa hla hXR
  go_enter Try.func50, Try.ntmps50
  go_wp2_with (at_make; refine wpList_mk elemU32 rfl rfl _ _ rfl (n := n) rfl rfl rfl rfl (by omega) (by simp only [maxLen]; omega) ?_; intro w1 hown hg hz; have HMK := Lib.hid (And.intro hown (And.intro hg hz)); clear hown hg hz)
  obtain ⟨ho, hnw, hz⟩ := HMK.out
  rw [show List.replicate n (Value.int .u32 0) = nv .u32 (List.replicate n 0) by simp [nv]] at ho
  obtain ⟨g, hgq⟩ : ∃ g, w.heap.size = g := ⟨_, rfl⟩
  rw [hgq] at ho
  have HG := Lib.hid hgq
  have HW := Lib.hid (And.intro hnw ho)
  simp only [hgq]
  clear hgq hnw ho hz HMK
  go_loopw [7, 8] (fun v i wr => ∃ k r : Nat, ∃ q, v = .int .u64 r ∧ i = .int .i64 ((k : Int) - 1) ∧ k ≤ n ∧ r < d ∧ Hid (DivI 4294967296 la d k q r ∧ wr.ownsRow g 61 1 (.slice (some ⟨g, 0, none⟩) n n) n (nv .u32 q) ∧ Chg (fun j => j = g) w1 wr)) (fun _ i _ => (intOf i + 1).toNat)
  case atStart =>
    obtain ⟨ha, hNa, hla, hXR⟩ := H0.out
    have hdr : la.drop n = [] := List.drop_of_length_le (by omega)
    have hst := DivI.start (B := 4294967296) (a := la) (b := d) (i := n) (by omega) (by rw [hdr]; exact hd1)
    rw [hdr, hla] at hst
    exact ⟨n, 0, List.replicate n 0, rfl, rfl, Nat.le_refl _, hd1, hst, HW.out.2, Chg.refl _ _⟩
  case round =>
    obtain ⟨k, r, q, rfl, rfl, hk, hrd, HO⟩ := hrel
    by_cases h0 : k = 0
    · subst h0
      have hrb : r < 4294967296 := by omega
      go_wp2
      go_ret2
      obtain ⟨ha, hNa, hla, hXR⟩ := H0.out
      obtain ⟨hD, hown, hch⟩ := HO.out
      obtain ⟨hq, hr⟩ := hD.done
      rw [hNa.val] at hq hr
      refine ⟨q, g, by rw [← hXR, ← hr]; rfl, Rd.of_own hown, hD.digs, hq, by rw [HG.out]; exact Nat.le_refl _, Chg.owned HW.out.1 hch (fun k e => by have := HG.out; omega)⟩
    · obtain ⟨i, rfl⟩ : ∃ i, k = i + 1 := ⟨k - 1, by omega⟩
      have hij : (((i + 1 : Nat) : Int) - 1) = (i : Int) := by omega
      rw [hij]
      obtain ⟨wo, rfl⟩ : ∃ wo : World, wo = wr := ⟨_, rfl⟩
      obtain ⟨ha, hNa, hla, hXR⟩ := H0.out
      obtain ⟨hD, hown, hch⟩ := HO.out
      have hchg : Chg (fun j => j = g) w wo := (HW.out.1.mono (fun _ _ h => h.elim)).trans hch (fun _ _ h => h)
      obtain ⟨ad, u, rfl, hu, hcu⟩ := (ha.chg hchg (fun k _ h e => by have := HG.out; omega)).at_ (show i < n by omega)
      obtain ⟨p, hp, rfl⟩ := nv_at hu
      have hpb := hNa.digs.at_ hp
      have hst := hD.step hNa.digs (by omega) (by omega)
      have hqb := hD.quo_lt hNa.digs (by omega)
      rw [dg_some hp] at hst hqb
      have hql : q.length = n := by rw [hD.len, hla]
      obtain ⟨z, hz⟩ : ∃ z, q[i]? = some z := ⟨_, List.getElem?_eq_getElem (by omega)⟩
      have hcz := own_cell hown (i := i) (u := .int .u32 (z : Nat)) (by rw [nv, List.getElem?_map, hz]; rfl)
      have hfz := own_frz hown (by omega) i
      obtain ⟨X, hX⟩ : ∃ X, 4294967296 * r + p = X := ⟨_, rfl⟩
      rw [hX] at hst hqb
      have hor : bits .or .u64 ((r : Int) * 4294967296) (p : Int) = (X : Int) := by rw [shl_or32 r p (by omega) hpb]; omega
      obtain ⟨T, hT⟩ : ∃ T, X / d = T := ⟨_, rfl⟩
      obtain ⟨R, hR⟩ : ∃ R, X % d = R := ⟨_, rfl⟩
      have hTi : (X : Int) / (d : Int) = (T : Int) := by rw [← hT]; simp
      have hRi : (X : Int) % (d : Int) = (R : Int) := by rw [← hR]; simp
      have hTb : T < 4294967296 := by
        rw [← hT, Nat.div_lt_iff_lt_mul (by omega)]; exact hqb
      have hRd : R < d := by rw [← hR]; exact Nat.mod_lt _ (by omega)
      have hXb : X ≤ 18446744073709551615 := by omega
      rw [hT, hR] at hst
      have HS := Lib.hid (And.intro hst (And.intro hown hch))
      have hin : (i : Int) < (n : Int) := by omega
      have hinn : i < n := by omega
      have hr64 : r * 4294967296 ≤ 18446744069414584320 := by omega
      clear ha hNa hla hXR hD hown hch hchg hu hp hst hqb hql hz hij hT hR hX
      go_wp2
      go_roundw
      case rel =>
        obtain ⟨hst, hown, hch⟩ := HS.out
        have hset := own_set hown i (.int .u32 (T : Int)) hinn
        rw [nv_set] at hset
        exact ⟨i, R, q.set i T, by rw [hRi], rfl, by omega, hRd, hst, hset, hch.setCell (fun _ => rfl) _⟩
      case measure => simp [intOf]
end Go.Proofs.Ytgofjkppeobjfaa
