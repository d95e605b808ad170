/- Contract of refuterref03.Mul. -/
import Derived.Test.YtcjbndlhomokpaaRefD
namespace Go.Proofs.Ytcjbndlhomokpaa
set_option linter.unusedVariables false
open Go.RowKit Go.Mem Go.Dig

set_option maxRecDepth 100000 in
set_option maxHeartbeats 4000000 in
theorem rmul_dm (s s' : Bool) (A : Option Addr) (n c : Nat) (A' : Option Addr) (n' c' : Nat) (x y : Nat) (w : World) (hx : DM w A n c x) (hy : DM w A' n' c' y) (hn : n ≤ 1000000) (hn' : n' ≤ 1000000) :
    Calls Try.prog 71 #[.agg #[.bool s, .slice A n c], .agg #[.bool s', .slice A' n' c']] w fun e w' => ∃ v, e = .returned v ∧ RN w' v (sg (s != s') (x * y : Nat)) ∧ New w w' := by
  obtain ⟨la, ha, hc1, hc2, hNa⟩ := hx
  obtain ⟨lb, hb, hd1, hd2, hNb⟩ := hy
  have hla : la.length = n := by have := ha.len; rwa [nv_length] at this
  have hlb : lb.length = n' := by have := hb.len; rwa [nv_length] at this
  have H0 := Lib.hid (And.intro ha (And.intro hb (And.intro hNa (And.intro hNb (And.intro hla hlb)))))
  clear ha hb hNa hNb hla hlb
  go_enter Try.func71, Try.ntmps71
  go_wp2_with (at_make; refine wpList_mk elemInts rfl rfl _ _ rfl (n := n + n') rfl rfl (by omega) (by omega) (by omega) (by simp only [maxLen]; omega) ?_; intro w1 hown hg hz; have HMK := Lib.hid (And.intro hown (And.intro hg hz)); clear hown hg hz)
  obtain ⟨ho, hg, hz⟩ := HMK.out
  simp only [World.size_alloc] at ho hz
  have hB1 : Blk w1 w.heap.size 58 #[.bool s, .slice A n c] := (((Blk.new w _ _).alloc _).alloc _).chg hg (fun h => h)
  have hB2 : Blk w1 (w.heap.size + 1) 58 #[.bool s', .slice A' n' c'] := by
    have := ((Blk.new (w.alloc (.cells #[.bool s, .slice A n c] 58)) 58 #[.bool s', .slice A' n' c']).alloc (.cells #[.bool false, .slice none 0 0] 58)).chg hg (fun h => h)
    rwa [World.size_alloc] at this
  have hB3 : Blk w1 (w.heap.size + 1 + 1) 58 #[.bool false, .slice none 0 0] := by
    have := (Blk.new ((w.alloc (.cells #[.bool s, .slice A n c] 58)).alloc (.cells #[.bool s', .slice A' n' c'] 58)) 58 #[.bool false, .slice none 0 0]).chg hg (fun h => h)
    rwa [World.size_alloc, World.size_alloc] at this
  have hnw : New w w1 := ((((Chg.refl _ w).alloc _).alloc _).alloc _).new hg
  rw [show List.replicate (n + n') (Value.int .i64 0) = nv .i64 (List.replicate (n + n') 0) by simp [nv]] at ho
  obtain ⟨g, hgq⟩ : ∃ g, w.heap.size + 1 + 1 + 1 = g := ⟨_, rfl⟩
  rw [hgq] at ho
  have hgb : w.heap.size + 1 + 1 < g := by omega
  have HW := Lib.hid (And.intro hB1 (And.intro hB2 (And.intro hB3 (And.intro hnw ho))))
  simp only [hgq]
  clear hgq hB1 hB2 hB3 hnw ho hg hz HMK
  go_loopw [6] (fun i wr => ∃ k : Nat, ∃ o, i = .int .i64 k ∧ k ≤ n ∧ Hid (MulI 10000 la lb k 0 o 0 ∧ wr.ownsRow g 3 1 (.slice (some ⟨g, 0, none⟩) (n + n') (n + n')) (n + n') (nv .i64 o) ∧ Chg (fun j => j = g) w1 wr)) (fun i _ => n - (intOf i).toNat)
  case atStart =>
    obtain ⟨ha, hb, hNa, hNb, hla, hlb⟩ := H0.out
    refine ⟨0, List.replicate (n + n') 0, rfl, by omega, ?_, HW.out.2.2.2.2, Chg.refl _ _⟩
    have := MulI.start (B := 10000) (by omega) la lb
    rwa [hla, hlb] at this
  case round =>
    obtain ⟨i, o, rfl, hi, HO⟩ := hrel
    obtain ⟨hB1, hB2, hB3, hnw, _⟩ := HW.out
    have hC1 := hB1.chg HO.out.2.2 (by omega)
    have hC2 := hB2.chg HO.out.2.2 (by omega)
    have hC3 := hB3.chg HO.out.2.2 (by omega)
    have hc10 := hC1.cell 0 (u := .bool s) rfl
    have hc11 := hC1.cell 1 (u := .slice A n c) rfl
    have hc20 := hC2.cell 0 (u := .bool s') rfl
    have hc21 := hC2.cell 1 (u := .slice A' n' c') rfl
    by_cases hlt : i < n
    · clear hB1 hB2 hB3 hnw hC1 hC2 hC3
      go_wp2_with fail
      go_loopw [7, 8] (fun u v wr => ∃ k cr : Nat, ∃ o, u = .int .i64 cr ∧ v = .int .i64 k ∧ k ≤ n' ∧ cr < 10000 ∧ Hid (MulI 10000 la lb i k o cr ∧ wr.ownsRow g 3 1 (.slice (some ⟨g, 0, none⟩) (n + n') (n + n')) (n + n') (nv .i64 o) ∧ Chg (fun j => j = g) w1 wr)) (fun _ v _ => n' - (intOf v).toNat)
      case atStart => exact ⟨0, 0, o, rfl, rfl, by omega, by omega, HO.out⟩
      case round =>
        obtain ⟨wo, rfl⟩ : ∃ wo : World, wo = wr := ⟨_, rfl⟩
        obtain ⟨k, cr, o, rfl, rfl, hk, hcr, HI⟩ := hrel
        obtain ⟨hB1, hB2, hB3, hnw, _⟩ := HW.out
        have hC1 := hB1.chg HI.out.2.2 (by omega)
        have hC2 := hB2.chg HI.out.2.2 (by omega)
        have hc11 := hC1.cell 1 (u := .slice A n c) rfl
        have hc21 := hC2.cell 1 (u := .slice A' n' c') rfl
        clear hB1 hB2 hB3 hnw hC1 hC2
        by_cases hlk : k < n'
        · obtain ⟨ha, hb, hNa, hNb, hla, hlb⟩ := H0.out
          have hchg : Chg (fun j => j = g) w wo := (HW.out.2.2.2.1.mono (fun _ _ h => h.elim)).trans HI.out.2.2 (fun _ _ h => h)
          obtain ⟨ad, u, rfl, hu, hcu⟩ := (ha.chg hchg (fun k _ h e => by omega)).at_ hlt
          obtain ⟨bd, v, rfl, hv, hcv⟩ := (hb.chg hchg (fun k _ h e => by omega)).at_ hlk
          obtain ⟨p, hp, rfl⟩ := nv_at hu
          obtain ⟨r, hr, rfl⟩ := nv_at hv
          have hol : o.length = n + n' := by rw [HI.out.1.len, hla, hlb]
          obtain ⟨d, hd⟩ : ∃ d, o[i + k]? = some d := ⟨_, List.getElem?_eq_getElem (by omega)⟩
          have hcd := own_cell HI.out.2.1 (i := i + k) (u := .int .i64 (d : Nat)) (by rw [nv, List.getElem?_map, hd]; rfl)
          have hdb := HI.out.1.digs.at_ hd
          have hpb := hNa.digs.at_ hp
          have hrb := hNb.digs.at_ hr
          have hst := HI.out.1.step (by omega) hNa.digs hNb.digs (by omega) hd
          rw [dg_some hp, dg_some hr] at hst
          obtain ⟨gg, hgg, _, hgs, hfz⟩ := own_form HI.out.2.1 (by omega)
          have hgg' : g = gg := by simpa using hgg
          subst hgg'
          have hf := hfz (i + k)
          obtain ⟨m, hm⟩ : ∃ m, p * r = m := ⟨_, rfl⟩
          have hmb : m ≤ 99980001 := by
            rw [← hm]
            exact Nat.le_trans (Nat.mul_le_mul (show p ≤ 9999 by omega) (show r ≤ 9999 by omega)) (by decide)
          have hmi : (p : Int) * (r : Int) = (m : Int) := by rw [← hm]; simp
          rw [hm] at hst
          obtain ⟨v, hv⟩ : ∃ v, d + m + cr = v := ⟨_, rfl⟩
          rw [hv] at hst
          have hvi : (d : Int) + (m : Int) + (cr : Int) = (v : Int) := by omega
          have hvb : v ≤ 100000000 := by omega
          have HS := Lib.hid hst
          have hik : (i : Int) + (k : Int) < (n : Int) + (n' : Int) := by omega
          clear ha hb hNa hNb hla hlb hchg hu hv hp hr hol hd hdb hpb hrb hst hgg hfz hm
          go_wp2
          go_quiet (fail)
          go_wp2
          go_roundw
          case rel =>
            have ho2 := own_chg HI.out.2.1 ((Chg.refl (fun _ => False) wo).drewN nq) (fun _ _ h => h)
            have ho3 := own_set ho2 (i + k) (.int .i64 ((v % 10000 : Nat) : Int)) (by omega)
            rw [nv_set] at ho3
            refine ⟨k + 1, v / 10000, o.set (i + k) (v % 10000), congrArg (Value.int .i64) (by omega), by go_num, by omega, HS.out.1, HS.out.2, ?_, ?_⟩
            · rw [show ((v : Int) % 10000) = ((v % 10000 : Nat) : Int) by omega]; exact ho3
            · exact (HI.out.2.2.drewN nq).setCell (fun _ => rfl) _
          case measure => simp [intOf]; omega
        · obtain rfl : n' = k := by omega
          obtain ⟨ha, hb, hNa, hNb, hla, hlb⟩ := H0.out
          have hol : o.length = n + n' := by rw [HI.out.1.len, hla, hlb]
          obtain ⟨d, hd⟩ : ∃ d, o[i + n']? = some d := ⟨_, List.getElem?_eq_getElem (by omega)⟩
          have hcd := own_cell HI.out.2.1 (i := i + n') (u := .int .i64 (d : Nat)) (by rw [nv, List.getElem?_map, hd]; rfl)
          obtain ⟨gg, hgg, _, hgs, hfz⟩ := own_form HI.out.2.1 (by omega)
          have hgg' : g = gg := by simpa using hgg
          subst hgg'
          have hf := hfz (i + n')
          have hrow : MulI 10000 la lb (i + 1) 0 (o.set (i + n') cr) 0 := by
            have := HI.out.1
            rw [← hlb] at this ⊢
            exact this.row (by omega) (by omega)
          have HS := Lib.hid hrow
          have hik : (i : Int) + (n' : Int) < (n : Int) + (n' : Int) := by omega
          clear ha hb hNa hNb hla hlb hol hd hrow hgg hfz
          go_wp2
          go_roundw
          case rel =>
            have ho3 := own_set HI.out.2.1 (i + n') (.int .i64 (cr : Int)) (by omega)
            rw [nv_set] at ho3
            refine ⟨i + 1, o.set (i + n') cr, by go_num, by omega, HS.out, ho3, ?_⟩
            exact HI.out.2.2.setCell (fun _ => rfl) _
          case measure => simp [intOf]; omega
    · obtain rfl : n = i := by omega
      have HC3 := Lib.hid hC3
      clear hB1 hB2 hB3 hnw hC1 hC2 hC3
      go_wp2_with fail
      obtain ⟨ha, hb, hNa, hNb, hla, hlb⟩ := H0.out
      have hval : val 10000 o = x * y := by
        have := HO.out.1
        rw [← hla] at this
        rw [this.done (i := 0) (c := 0), hNa.val, hNb.val]
      have hn1 : New w wr := HW.out.2.2.2.1.trans HO.out.2.2 (fun j hj e => by omega)
      refine (normal_rn (s != s') _ (n + n') (n + n') o wr (Rd.of_own HO.out.2.1) HO.out.1.digs (Nat.le_refl _) (by omega)).mono ?_
      rintro e w2 ⟨v2, rfl, ⟨s2, A2, n2, c2, rfl, hs2, hm2⟩, hn2⟩
      rw [hval] at hs2 hm2
      have hb2 := HC3.out.chg hn2 (fun h => h)
      have hk0 := hb2.cell 0 (u := .bool false) rfl
      have hk1 := hb2.cell 1 (u := .slice none 0 0) rfl
      have hf0 := hb2.frozen 0
      have hf1 := hb2.frozen 1
      have H2 := Lib.hid (And.intro hb2 (And.intro (hn1.new hn2) (And.intro hs2 hm2)))
      clear ha hb hNa hNb hla hlb hval hn1 hs2 hm2 hn2 hb2 HC3
      go_wp2
      obtain ⟨hb2, hn2, hs2, hm2⟩ := H2.out
      refine bodyPost_ret (res_c rfl _ rfl (aggN.load (hb2.set2 _ _))) rfl ⟨_, rfl, ⟨s2, A2, n2, c2, rfl, hs2, hm2.store hb2 (noInt_two' _ _ _ _) (Chg.at2 _ _ _ _)⟩, ?_⟩
      exact Chg.owned hn2 (Chg.at2 _ _ _ _) (fun k e => by omega)

theorem sg_mul' (s t : Bool) (a b : Nat) : sg (s != t) (a * b : Nat) = sg s a * sg t b := by
  cases s <;> cases t <;> simp [sg, Int.neg_mul, Int.mul_neg]
theorem sg_mul (x y : Int) : sg (decide (x < 0) != decide (y < 0)) (x.natAbs * y.natAbs : Nat) = x * y := by
  rw [sg_mul', sg_of, sg_of]
theorem rmul_any (v v' : Value) (x y : Int) (w : World) (hx : RN w v x) (hy : RN w v' y) (bx : x.natAbs < 2 ^ 1000000) (bY : y.natAbs < 2 ^ 1000000) :
    Calls Try.prog 71 #[v, v'] w fun e w' => ∃ v, e = .returned v ∧ RN w' v (x * y) ∧ New w w' := by
  obtain ⟨s, A, n, c, rfl, hs, hm⟩ := hx
  obtain ⟨s', A', n', c', rfl, hs', hm'⟩ := hy
  have hn := bz_len hm bx
  have hn' := bz_len hm' bY
  refine (rmul_dm s s' A n c A' n' c' _ _ w hm hm' hn hn').mono ?_
  rw [hs, hs', sg_mul]
  rintro e w1 h
  exact h
end Go.Proofs.Ytcjbndlhomokpaa
