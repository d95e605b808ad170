/- Contracts of refuterref03: compared, Compare, at, plus, minus, Neg, Add, Sub. -/
import Derived.Test.YtcjbndlhomokpaaRefA
import Derived.Deep.QuietTactic
import Derived.BigQuiet
namespace Go.Proofs.Ytcjbndlhomokpaa
set_option linter.unusedVariables false
open Go.RowKit Go.Mem Go.Dig

set_option maxRecDepth 100000 in
set_option maxHeartbeats 1000000 in
theorem compared_any (A : Option Addr) (n c : Nat) (A' : Option Addr) (n' c' : Nat) (x y : Nat) (w : World) (hx : DM w A n c x) (hy : DM w A' n' c' y) :
    Calls Try.prog 77 #[.slice A n c, .slice A' n' c'] w fun e w' => e = .returned (.int .i64 (cmpI x y)) ∧ ∃ q, w' = w.drewN q := by
  obtain ⟨la, ha, hc1, hc2, hNa⟩ := hx
  obtain ⟨lb, hb, hd1, hd2, hNb⟩ := hy
  have hla : la.length = n := by have := ha.len; rwa [nv_length] at this
  have hlb : lb.length = n' := by have := hb.len; rwa [nv_length] at this
  rcases Nat.lt_trichotomy n n' with h | h | h
  · rw [cmpI_lt (by have := hNa.len_lt (by omega) hNb (by omega); omega)]
    have hlt : (n : Int) < (n' : Int) := by omega
    clear hla hlb ha hb hNa hNb
    go_enter Try.func77, Try.ntmps77
    go_wp2
    go_ret
    exact ⟨rfl, 0, rfl⟩
  · subst h
    obtain ⟨C, hC⟩ : ∃ C, cmpI x y = C := ⟨_, rfl⟩
    rw [hC]
    have H0 := Lib.hid (And.intro ha (And.intro hb (And.intro hNa (And.intro hNb (And.intro hla (And.intro hlb hC))))))
    clear ha hb hNa hNb hla hlb hC
    go_enter Try.func77, Try.ntmps77
    go_wp2
    go_loopw [5] (fun i wr => ∃ k : Nat, k ≤ n ∧ i = .int .i64 ((k : Int) - 1) ∧ Hid (la.drop k = lb.drop k) ∧ ∃ q, wr = w.drewN q) (fun i _ => (intOf i + 1).toNat)
    case atStart =>
      obtain ⟨ha, hb, hNa, hNb, hla, hlb, hC⟩ := H0.out
      exact ⟨n, Nat.le_refl _, rfl, by show _ = _; rw [List.drop_of_length_le (by omega), List.drop_of_length_le (by omega)], 0, rfl⟩
    case round =>
      obtain ⟨k, hk, rfl, HD, q, hq⟩ := hrel
      have hnew : New w wr := by rw [hq]; exact (Chg.refl _ w).drewN q
      have HQ := Lib.hid hq
      clear hq
      by_cases h0 : k = 0
      · subst h0
        go_wp2
        go_ret
        obtain ⟨ha, hb, hNa, hNb, hla, hlb, hC⟩ := H0.out
        have e := HD.out
        rw [List.drop_zero, List.drop_zero] at e
        rw [← hC, cmpI_eq (by rw [← hNa.val, ← hNb.val, e])]
        exact ⟨rfl, q, HQ.out⟩
      · obtain ⟨j, rfl⟩ : ∃ j, k = j + 1 := ⟨k - 1, by omega⟩
        obtain ⟨ha, hb, hNa, hNb, hla, hlb, hC⟩ := H0.out
        obtain ⟨ad, u, rfl, hu, hcu⟩ := (ha.new hnew).at_ (show j < n by omega)
        obtain ⟨bd, v, rfl, hv, hcv⟩ := (hb.new hnew).at_ (show j < n by omega)
        obtain ⟨p, hp, rfl⟩ := nv_at hu
        obtain ⟨r, hr, rfl⟩ := nv_at hv
        have HP := Lib.hid (And.intro hp hr)
        have hj1 : (((j + 1 : Nat) : Int) - 1) = (j : Int) := by omega
        rw [hj1]
        clear hj1 ha hb hNa hNb hla hlb hC hu hv hp hr hnew
        rcases Nat.lt_trichotomy p r with h | h | h
        · have hlt : (p : Int) < (r : Int) := by omega
          go_wp2
          go_quiet (fail)
          go_wp2
          go_ret
          obtain ⟨ha, hb, hNa, hNb, hla, hlb, hC⟩ := H0.out
          obtain ⟨hp, hr⟩ := HP.out
          have := val_lt_of hNa.digs (by omega) hp hr HD.out h
          rw [hNa.val, hNb.val] at this
          rw [← hC, cmpI_lt (by omega)]
          exact ⟨rfl, _, by rw [HQ.out, World.drewN_drewN]⟩
        · subst h
          have hlt : decide ((p : Int) < (p : Int)) = false := by simp
          go_wp2
          go_quiet (fail)
          go_wp2
          go_quiet (fail)
          go_wp2
          go_roundw
          case rel =>
            obtain ⟨hp, hr⟩ := HP.out
            exact ⟨j, by omega, by go_num, drop_step hp hr HD.out, _, by rw [HQ.out, World.drewN_drewN]⟩
          case measure => simp [intOf]
        · have hlt : decide ((p : Int) < (r : Int)) = false := by simp; omega
          have hgt : (r : Int) < (p : Int) := by omega
          go_wp2
          go_quiet (fail)
          go_wp2
          go_quiet (fail)
          go_wp2
          go_ret
          obtain ⟨ha, hb, hNa, hNb, hla, hlb, hC⟩ := H0.out
          obtain ⟨hp, hr⟩ := HP.out
          have := val_lt_of hNb.digs (by omega) hr hp HD.out.symm h
          rw [hNa.val, hNb.val] at this
          rw [← hC, cmpI_gt (by omega)]
          exact ⟨rfl, _, by rw [World.drewN_drewN, HQ.out, World.drewN_drewN]⟩
  · rw [cmpI_gt (by have := hNb.len_lt (by omega) hNa (by omega); omega)]
    have hlt : decide ((n : Int) < (n' : Int)) = false := by simp; omega
    have hlt' : decide (n < n') = false := by simp; omega
    have hgt : (n' : Int) < (n : Int) := by omega
    clear hla hlb ha hb hNa hNb
    go_enter Try.func77, Try.ntmps77
    go_wp2
    go_ret
    exact ⟨rfl, 0, rfl⟩

set_option maxHeartbeats 400000 in
theorem rcompare_any (v v' : Value) (x y : Int) (w : World) (hx : RN w v x) (hy : RN w v' y) :
    Calls Try.prog 56 #[v, v'] w fun e w' => e = .returned (.int .i64 (cmpI x y)) ∧ New w w' := by
  obtain ⟨s, A, n, c, rfl, hs, hm⟩ := hx
  obtain ⟨s', A', n', c', rfl, hs', hm'⟩ := hy
  have H := Lib.hid (And.intro hs (And.intro hm (And.intro hs' hm')))
  clear hs hs' hm hm'
  cases s <;> cases s'
  · go_enter Try.func56, Try.ntmps56
    go_wp2_with fail
    obtain ⟨hs, hm, hs', hm'⟩ := H.out
    have hn0 : New w ((w.alloc (.cells #[.bool false, .slice A n c] 58)).alloc (.cells #[.bool false, .slice A' n' c'] 58)) := ((Chg.refl _ w).alloc _).alloc _
    refine (compared_any A n c A' n' c' x.natAbs y.natAbs _ (hm.new hn0) (hm'.new hn0)).mono ?_
    rintro e w1 ⟨rfl, q, hq⟩
    have h1 : ¬ x < 0 := by simpa using hs.symm
    have h2 : ¬ y < 0 := by simpa using hs'.symm
    rw [show ((x.natAbs : Nat) : Int) = x by omega, show ((y.natAbs : Nat) : Int) = y by omega]
    have H1 := Lib.hid (show New w w1 by rw [hq]; exact hn0.drewN q)
    clear hs hm hs' hm' hn0 hq h1 h2
    go_wp2
    go_ret
    exact ⟨rfl, H1.out⟩
  · go_enter Try.func56, Try.ntmps56
    go_wp2
    go_ret
    obtain ⟨hs, hm, hs', hm'⟩ := H.out
    have h1 : ¬ x < 0 := by simpa using hs.symm
    have h2 : y < 0 := by simpa using hs'.symm
    exact ⟨by rw [cmpI_gt (by omega)]; rfl, ((Chg.refl _ w).alloc _).alloc _⟩
  · go_enter Try.func56, Try.ntmps56
    go_wp2
    go_ret
    obtain ⟨hs, hm, hs', hm'⟩ := H.out
    have h1 : x < 0 := by simpa using hs.symm
    have h2 : ¬ y < 0 := by simpa using hs'.symm
    exact ⟨by rw [cmpI_lt (by omega)]; rfl, ((Chg.refl _ w).alloc _).alloc _⟩
  · go_enter Try.func56, Try.ntmps56
    go_wp2_with fail
    obtain ⟨hs, hm, hs', hm'⟩ := H.out
    have hn0 : New w ((w.alloc (.cells #[.bool true, .slice A n c] 58)).alloc (.cells #[.bool true, .slice A' n' c'] 58)) := ((Chg.refl _ w).alloc _).alloc _
    refine (compared_any A' n' c' A n c y.natAbs x.natAbs _ (hm'.new hn0) (hm.new hn0)).mono ?_
    rintro e w1 ⟨rfl, q, hq⟩
    have h1 : x < 0 := by simpa using hs.symm
    have h2 : y < 0 := by simpa using hs'.symm
    rw [show cmpI ((y.natAbs : Nat) : Int) ((x.natAbs : Nat) : Int) = cmpI x y by
      rw [show ((y.natAbs : Nat) : Int) = -y by omega, show ((x.natAbs : Nat) : Int) = -x by omega]
      unfold cmpI
      repeat' split
      all_goals omega]
    have H1 := Lib.hid (show New w w1 by rw [hq]; exact hn0.drewN q)
    clear hs hm hs' hm' hn0 hq h1 h2
    go_wp2
    go_ret
    exact ⟨rfl, H1.out⟩

set_option maxHeartbeats 400000 in
theorem at_any (A : Option Addr) (n c : Nat) (l : List Nat) (i : Nat) (w : World) (hr : Rd w A n (nv .i64 l)) (hn : n ≤ 9223372036854775807) :
    Calls Try.prog 92 #[.slice A n c, .int .i64 i] w fun e w' => e = .returned (.int .i64 (dg l i)) ∧ w = w' := by
  have hl : l.length = n := by have := hr.len; rwa [nv_length] at this
  by_cases h : i < n
  · obtain ⟨ad, u, rfl, hu, hcu⟩ := hr.at_ h
    obtain ⟨z, hz, rfl⟩ := nv_at hu
    rw [dg_some hz]
    have hlt : (i : Int) < (n : Int) := by omega
    clear hr hl hu hz
    go_enter Try.func92, Try.ntmps92
    go_wp2
    go_ret
    exact ⟨rfl, rfl⟩
  · rw [dg_none (by omega)]
    have hlt : decide ((i : Int) < (n : Int)) = false := by simp; omega
    have hlt' : decide (i < n) = false := by simp; omega
    clear hr hl
    go_enter Try.func92, Try.ntmps92
    go_wp2
    go_ret
    exact ⟨rfl, rfl⟩

/-- A slice of the call's own with digits whose value is m. -/
def OM (w : World) (base : Nat) (A : Option Addr) (n c : Nat) (m : Nat) : Prop := ∃ l, w.ownsRow base 3 1 (.slice A n c) n (nv .i64 l) ∧ Digs 10000 l ∧ val 10000 l = m

set_option maxRecDepth 100000 in
set_option maxHeartbeats 2000000 in
theorem plus_any (A : Option Addr) (n c : Nat) (A' : Option Addr) (n' c' : Nat) (x y : Nat) (w : World) (hx : DM w A n c x) (hy : DM w A' n' c' y) (hn : n ≤ 1000000) (hn' : n' ≤ 1000000) :
    Calls Try.prog 91 #[.slice A n c, .slice A' n' c'] w fun e w' => ∃ R k d, e = .returned (.slice R k d) ∧ OM w' w.heap.size R k d (x + y) ∧ New w w' := by
  obtain ⟨la, ha, hc1, hc2, hNa⟩ := hx
  obtain ⟨lb, hb, hd1, hd2, hNb⟩ := hy
  have hla : la.length = n := by have := ha.len; rwa [nv_length] at this
  have hlb : lb.length = n' := by have := hb.len; rwa [nv_length] at this
  have H0 := Lib.hid (And.intro ha (And.intro hb (And.intro hNa (And.intro hNb (And.intro hla hlb)))))
  clear ha hb hNa hNb hla hlb
  go_enter Try.func91, Try.ntmps91
  go_wp2
  go_loopw [5, 6, 7] (fun v u i wr => ∃ k cr : Nat, ∃ R d o, v = .slice R k d ∧ u = .int .i64 cr ∧ i = .int .i64 k ∧ cr ≤ 1 ∧ k ≤ 1000001 ∧ Hid (AddI 10000 la lb k o cr ∧ wr.ownsRow w.heap.size 3 1 (.slice R k d) k (nv .i64 o) ∧ New w wr)) (fun _ _ i _ => 1000002 - (intOf i).toNat)
  case atStart => exact ⟨0, 0, none, 0, [], rfl, rfl, rfl, by omega, by omega, AddI.start _ _ _, World.ownsRow_nil _ _ _ _, Chg.refl _ _⟩
  case round =>
    obtain ⟨k, cr, R, d, o, rfl, rfl, rfl, hcr, hk, HO⟩ := hrel
    by_cases hgo : k < n ∨ k < n' ∨ 0 < cr
    · have hk1 : k ≤ 1000000 := by
        rcases Nat.lt_or_ge 1000000 k with h | h
        · exfalso
          obtain ⟨ha, hb, hNa, hNb, hla, hlb⟩ := H0.out
          have hcz := HO.out.1.carry0 (m := 1000000) (by omega) hNa.digs hNb.digs (by omega) (by omega) (by omega)
          omega
        · exact h
      have hda : dg la k < 10000 := dg_lt H0.out.2.2.1.digs (by omega) k
      have hdb : dg lb k < 10000 := dg_lt H0.out.2.2.2.1.digs (by omega) k
      have HN := Lib.hid (HO.out.1.step (by omega) H0.out.2.2.1.digs H0.out.2.2.2.1.digs)
      obtain ⟨p, hp⟩ : ∃ p, dg la k = p := ⟨_, rfl⟩
      obtain ⟨r, hr⟩ : ∃ r, dg lb k = r := ⟨_, rfl⟩
      rw [hp] at hda HN
      rw [hr] at hdb HN
      have HPR := Lib.hid (And.intro hp hr)
      clear hp hr
      have hguard : k < n ∨ (¬ k < n ∧ k < n') ∨ (¬ k < n ∧ ¬ k < n' ∧ cr = 1) := by omega
      clear hgo
      rcases hguard with h1 | ⟨h1, h2⟩ | ⟨h1, h2, h3⟩
      · have g1 : decide ((k : Int) < (n : Int)) = true := by simp; omega
        have g1' : decide (k < n) = true := by simp; omega
        go_wp2_with fail
        obtain ⟨ha, hb, hNa, hNb, hla, hlb⟩ := H0.out
        refine (at_any A n c la k wr (ha.new HO.out.2.2) (by omega)).mono ?_
        rw [HPR.out.1]
        rintro e w1 ⟨rfl, rfl⟩
        clear ha hb hNa hNb hla hlb
        go_wp2_with fail
        obtain ⟨ha, hb, hNa, hNb, hla, hlb⟩ := H0.out
        refine (at_any A' n' c' lb k wr (hb.new HO.out.2.2) (by omega)).mono ?_
        rw [HPR.out.2]
        rintro e w1 ⟨rfl, rfl⟩
        clear ha hb hNa hNb hla hlb
        obtain ⟨v, hv⟩ : ∃ v, p + r + cr = v := ⟨_, rfl⟩
        have hvi : (p : Int) + (r : Int) + (cr : Int) = (v : Int) := by omega
        have hvb : v ≤ 19999 := by omega
        have HV := Lib.hid hv
        clear hv
        go_wp2_with (at_builtin; refine wpList_app elemInts rfl _ _ rfl rfl (HO.out.2.1.alloc _) rfl (Rd.lit (nv .i64 [v % 10000]) rfl) (nv_one _) (by simp only [maxLen]; omega) (by omega) (by have := HO.out.2.2.size; simp; omega) ?_; intro R' d' w1 hown hg hat; have HA := Lib.hid (And.intro hown hg); clear hown hg hat)
        go_roundw
        case rel =>
          obtain ⟨hown, hg⟩ := HA.out
          rw [← nv_append] at hown
          have hN := HN.out
          rw [HV.out] at hN
          refine ⟨k + 1, v / 10000, R', d', o ++ [v % 10000], rfl, by go_num, by go_num, by omega, by omega, hN, hown, ?_⟩
          exact (HO.out.2.2.alloc _).grown hg (fun k hk hlt => by have := own_blk_le HO.out.2.1 hk; omega)
        case measure => simp [intOf]; omega
      · have g1 : decide ((k : Int) < (n : Int)) = false := by simp; omega
        have g1' : decide (k < n) = false := by simp; omega
        have g2 : decide ((k : Int) < (n' : Int)) = true := by simp; omega
        have g2' : decide (k < n') = true := by simp; omega
        go_wp2_with fail
        obtain ⟨ha, hb, hNa, hNb, hla, hlb⟩ := H0.out
        refine (at_any A n c la k wr (ha.new HO.out.2.2) (by omega)).mono ?_
        rw [HPR.out.1]
        rintro e w1 ⟨rfl, rfl⟩
        clear ha hb hNa hNb hla hlb
        go_wp2_with fail
        obtain ⟨ha, hb, hNa, hNb, hla, hlb⟩ := H0.out
        refine (at_any A' n' c' lb k wr (hb.new HO.out.2.2) (by omega)).mono ?_
        rw [HPR.out.2]
        rintro e w1 ⟨rfl, rfl⟩
        clear ha hb hNa hNb hla hlb
        obtain ⟨v, hv⟩ : ∃ v, p + r + cr = v := ⟨_, rfl⟩
        have hvi : (p : Int) + (r : Int) + (cr : Int) = (v : Int) := by omega
        have hvb : v ≤ 19999 := by omega
        have HV := Lib.hid hv
        clear hv
        go_wp2_with (at_builtin; refine wpList_app elemInts rfl _ _ rfl rfl (HO.out.2.1.alloc _) rfl (Rd.lit (nv .i64 [v % 10000]) rfl) (nv_one _) (by simp only [maxLen]; omega) (by omega) (by have := HO.out.2.2.size; simp; omega) ?_; intro R' d' w1 hown hg hat; have HA := Lib.hid (And.intro hown hg); clear hown hg hat)
        go_roundw
        case rel =>
          obtain ⟨hown, hg⟩ := HA.out
          rw [← nv_append] at hown
          have hN := HN.out
          rw [HV.out] at hN
          refine ⟨k + 1, v / 10000, R', d', o ++ [v % 10000], rfl, by go_num, by go_num, by omega, by omega, hN, hown, ?_⟩
          exact (HO.out.2.2.alloc _).grown hg (fun k hk hlt => by have := own_blk_le HO.out.2.1 hk; omega)
        case measure => simp [intOf]; omega
      · have g3 : decide ((0 : Int) < (cr : Int)) = true := by simp; omega
        have g3' : 0 < cr := by omega
        clear h3
        have g1 : decide ((k : Int) < (n : Int)) = false := by simp; omega
        have g1' : decide (k < n) = false := by simp; omega
        have g2 : decide ((k : Int) < (n' : Int)) = false := by simp; omega
        have g2' : decide (k < n') = false := by simp; omega
        go_wp2_with fail
        obtain ⟨ha, hb, hNa, hNb, hla, hlb⟩ := H0.out
        refine (at_any A n c la k wr (ha.new HO.out.2.2) (by omega)).mono ?_
        rw [HPR.out.1]
        rintro e w1 ⟨rfl, rfl⟩
        clear ha hb hNa hNb hla hlb
        go_wp2_with fail
        obtain ⟨ha, hb, hNa, hNb, hla, hlb⟩ := H0.out
        refine (at_any A' n' c' lb k wr (hb.new HO.out.2.2) (by omega)).mono ?_
        rw [HPR.out.2]
        rintro e w1 ⟨rfl, rfl⟩
        clear ha hb hNa hNb hla hlb
        obtain ⟨v, hv⟩ : ∃ v, p + r + cr = v := ⟨_, rfl⟩
        have hvi : (p : Int) + (r : Int) + (cr : Int) = (v : Int) := by omega
        have hvb : v ≤ 19999 := by omega
        have HV := Lib.hid hv
        clear hv
        go_wp2_with (at_builtin; refine wpList_app elemInts rfl _ _ rfl rfl (HO.out.2.1.alloc _) rfl (Rd.lit (nv .i64 [v % 10000]) rfl) (nv_one _) (by simp only [maxLen]; omega) (by omega) (by have := HO.out.2.2.size; simp; omega) ?_; intro R' d' w1 hown hg hat; have HA := Lib.hid (And.intro hown hg); clear hown hg hat)
        go_roundw
        case rel =>
          obtain ⟨hown, hg⟩ := HA.out
          rw [← nv_append] at hown
          have hN := HN.out
          rw [HV.out] at hN
          refine ⟨k + 1, v / 10000, R', d', o ++ [v % 10000], rfl, by go_num, by go_num, by omega, by omega, hN, hown, ?_⟩
          exact (HO.out.2.2.alloc _).grown hg (fun k hk hlt => by have := own_blk_le HO.out.2.1 hk; omega)
        case measure => simp [intOf]; omega
    · obtain rfl : cr = 0 := by omega
      have g1 : decide ((k : Int) < (n : Int)) = false := by simp; omega
      have g1' : decide (k < n) = false := by simp; omega
      have g2 : decide ((k : Int) < (n' : Int)) = false := by simp; omega
      have g2' : decide (k < n') = false := by simp; omega
      have h1 : n ≤ k := by omega
      have h2 : n' ≤ k := by omega
      clear hgo
      go_wp2
      go_ret
      obtain ⟨hA, ho, hn⟩ := HO.out
      obtain ⟨ha, hb, hNa, hNb, hla, hlb⟩ := H0.out
      refine ⟨R, k, d, rfl, ⟨o, ho, hA.digs, ?_⟩, hn⟩
      rw [hA.done (by omega) (by omega), hNa.val, hNb.val]
end Go.Proofs.Ytcjbndlhomokpaa
