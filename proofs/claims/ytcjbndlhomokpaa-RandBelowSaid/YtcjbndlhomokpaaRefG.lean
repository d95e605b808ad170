/- Contract of refuterref03.divided. -/
import Derived.Test.YtcjbndlhomokpaaRefF
import Derived.Test.YtcjbndlhomokpaaRandBound
namespace Go.Proofs.Ytcjbndlhomokpaa
set_option linter.unusedVariables false
open Go.RowKit Go.Mem Go.Dig

theorem own_lit {w : World} {cs : Array Value} {e : TypeId} {n : Nat} (h : cs.size = n) (hn : n ≤ maxLen) : (w.alloc (.cells cs e)).ownsRow w.heap.size e 1 (.slice (some ⟨w.heap.size, 0, none⟩) n n) n cs.toList :=
  World.ownsRow_lit (e := e) (size := 1) w cs n (Nat.le_refl _) hn (by rw [Nat.mul_one]; exact h)

/-- What the outer loop holds. -/
def DvI (w1 : World) (g : Nat) (la : List Nat) (y n j : Nat) (R : Option Addr) (m d : Nat) (wr : World) : Prop :=
  ∃ q r, DivI 10000 la y j q r ∧ wr.ownsRow g 3 1 (.slice (some ⟨g, 0, none⟩) n n) n (nv .i64 q) ∧ DM wr R m d r ∧ (0 < m → blk R ≠ some g) ∧ Chg (fun k => k = g) w1 wr

set_option maxRecDepth 100000 in
set_option maxHeartbeats 4000000 in
theorem divided_any (A : Option Addr) (n c : Nat) (A' : Option Addr) (n' c' : Nat) (x y : Nat) (w : World) (hx : DM w A n c x) (hy : DM w A' n' c' y) (hn : n ≤ 1000000) (hn' : n' ≤ 900000) (hy1 : 1 ≤ y) :
    Calls Try.prog 72 #[.slice A n c, .slice A' n' c'] w fun e w' => ∃ Q k d R m d', e = .returned (.tuple #[.slice Q k d, .slice R m d']) ∧ OM w' w.heap.size Q k d (x / y) ∧ DM w' R m d' (x % y) ∧ New w w' := by
  have HY := Lib.hid hy
  obtain ⟨la, ha, hc1, hc2, hNa⟩ := hx
  have hla : la.length = n := by have := ha.len; rwa [nv_length] at this
  have hyp : 1 ≤ n' := by
    rcases Nat.eq_zero_or_pos n' with h | h
    · have := hy.pos.1 h; omega
    · exact h
  -- where the division begins
  obtain ⟨m1, hm1, hmin⟩ : ∃ m1 : Int, (((n : Int) ≤ (n : Int) - (n' : Int) + 1 ∧ m1 = n) ∨ ((n : Int) - (n' : Int) + 1 ≤ n ∧ m1 = (n : Int) - (n' : Int) + 1)) ∧ ∀ ts t W, (Builtin.min_ ts t #[.int .i64 (n : Int), .int .i64 ((n : Int) - (n' : Int) + 1)]).run Try.prog W = .ok (.int .i64 m1) W := by
    rcases Int.le_total (n : Int) ((n : Int) - (n' : Int) + 1) with h | h
    · exact ⟨_, .inl ⟨h, rfl⟩, fun ts t W => run_min2 _ _ _ (.inl ⟨h, rfl⟩) ts t W⟩
    · exact ⟨_, .inr ⟨h, rfl⟩, fun ts t W => run_min2 _ _ _ (.inr ⟨h, rfl⟩) ts t W⟩
  obtain ⟨m2, hm2, hmax⟩ := max_ex Try.prog 0 m1
  obtain ⟨f, hf⟩ : ∃ f : Nat, m2 = (f : Int) := ⟨m2.toNat, by omega⟩
  subst hf
  have hfn : f ≤ n := by omega
  have hfl : n - f < n' := by omega
  have htop : val 10000 (la.drop f) < y := by
    have h1 := hNa.digs.drop f
    obtain ⟨lb, hb, _, _, hNb⟩ := hy
    have hlb : lb.length = n' := by have := hb.len; rwa [nv_length] at this
    have h2 := (Num.of_trim h1).len_lt (by omega) hNb (by have := trim_len (la.drop f); rw [List.length_drop] at this; omega)
    exact h2
  have hcut := fun W => run_cut elemInts .i64 A n c f (f : Int) rfl hfn W
  have H0 := Lib.hid (And.intro ha (And.intro hNa (And.intro hla htop)))
  clear ha hNa hla htop hy hm1 hm2
  go_enter Try.func72, Try.ntmps72
  go_wp2_with (at_make; refine wpList_mk elemInts rfl rfl _ _ rfl (n := n) rfl rfl rfl rfl (by omega) (by simp only [maxLen]; omega) ?_; intro w1 hown hg hz; have HMK := Lib.hid (And.intro hown (And.intro hg hz)); clear hown hg hz)
  obtain ⟨ha, hNa, hla, htop⟩ := H0.out
  obtain ⟨ho, hg, hz⟩ := HMK.out
  have hr1 : Rd w1 (cutA A c f) (n - f) (nv .i64 (la.drop f)) := by
    have := (ha.new hg).cutA (k := f) hfn hc1
    rwa [nv_drop] at this
  refine (normal_dm (cutA A c f) (n - f) (c - f) (la.drop f) w1 hr1 (hNa.digs.drop f) (by omega) (by omega)).mono ?_
  rintro e w2 ⟨T, rfl, hdm, hT, hn2⟩
  have hbA : 0 < T → blk (cutA A c f) ≠ some w.heap.size := by
    intro hT0
    rw [blk_cutA]
    intro hb
    obtain ⟨ad, u, rfl, _, hcu⟩ := ha.at_ (show 0 < n by omega)
    have h1 := World.block_lt_of_cell? w _ hcu
    rw [block_add] at h1
    simp [blk] at hb
    omega
  rw [show List.replicate n (Value.int .i64 0) = nv .i64 (List.replicate n 0) by simp [nv]] at ho
  obtain ⟨W, hW⟩ : ∃ W, w2.alloc (.cells #[.bool false, .slice (cutA A c f) T (c - f)] 58) = W := ⟨_, rfl⟩
  have hnW : New w2 W := by rw [← hW]; exact (Chg.refl _ w2).alloc _
  have hDv : DvI w1 w.heap.size la y n f (cutA A c f) T (c - f) W := by
    refine ⟨List.replicate n 0, val 10000 (la.drop f), ?_, own_chg ho (hn2.new hnW) (fun _ _ h => h), hdm.new hnW, hbA, (hn2.new hnW).mono (fun _ _ h => h.elim)⟩
    have := DivI.start (B := 10000) (a := la) (by omega) htop
    rwa [hla] at this
  have HI := Lib.hid (And.intro hDv (And.intro hg hz))
  have HWQ := Lib.hid hW
  clear ha hNa hla htop ho hr1 hdm hg hn2 hbA hz HMK hmin hmax hcut hnW hDv hW
  go_wp2_with fail
  rw [HWQ.out]
  clear HWQ
  obtain ⟨g, hgq⟩ : ∃ g, w.heap.size = g := ⟨_, rfl⟩
  rw [hgq] at HI
  have HG := Lib.hid hgq
  simp only [hgq]
  clear hgq
  generalize cutA A c f = R0 at *
  go_loopw [9, 10] (fun v i wr => ∃ j m d : Nat, ∃ R, v = .slice R m d ∧ i = .int .i64 ((j : Int) - 1) ∧ j ≤ f ∧ Hid (DvI w1 g la y n j R m d wr)) (fun _ i _ => (intOf i + 1).toNat)
  case atStart => exact ⟨f, T, c - f, R0, rfl, rfl, Nat.le_refl _, HI.out.1⟩
  case round =>
    obtain ⟨j, m, d, R, rfl, rfl, hj, HD⟩ := hrel
    by_cases h0 : j = 0
    · subst h0
      go_wp2
      go_ret2
      obtain ⟨q, r, hdiv, ho, hdm, _, hch⟩ := HD.out
      obtain ⟨hq, hr⟩ := hdiv.done
      rw [H0.out.2.1.val] at hq hr
      rw [hr] at hdm
      refine ⟨_, _, _, _, _, _, rfl, ⟨q, by rw [HG.out]; exact ho, hdiv.digs, hq⟩, hdm, ?_⟩
      exact HI.out.2.1.trans hch (fun k hk e => by have := HG.out; omega)
    · obtain ⟨i, rfl⟩ : ∃ i, j = i + 1 := ⟨j - 1, by omega⟩
      have hij : (((i + 1 : Nat) : Int) - 1) = (i : Int) := by omega
      rw [hij]
      obtain ⟨wo, rfl⟩ : ∃ wo : World, wo = wr := ⟨_, rfl⟩
      obtain ⟨q, r, hdiv, hoq, ⟨lr, hrr, hmd, hdm, hNr⟩, _, hch⟩ := HD.out
      have hch0 : Chg (fun k => k = g) w wo := (HI.out.2.1.mono (fun _ _ h => h.elim)).trans hch (fun _ _ h => h)
      obtain ⟨ha, hNa, hla, htop⟩ := H0.out
      obtain ⟨ad, u, rfl, hu, hcu⟩ := (ha.chg hch0 (fun k _ h e => by have := HG.out; omega)).at_ (show i < n by omega)
      obtain ⟨p, hp, rfl⟩ := nv_at hu
      have hpb := hNa.digs.at_ hp
      have hgo : g < wo.heap.size := by
        have := HI.out.2.2
        have := HG.out
        have := hch.size
        omega
      have hmn : m ≤ n' := by
        obtain ⟨lb, hb, _, _, hNb⟩ := HY.out
        have hlb : lb.length = n' := by have := hb.len; rwa [nv_length] at this
        have hlr : lr.length = m := by have := hrr.len; rwa [nv_length] at this
        rcases Nat.lt_or_ge n' m with h | h
        · have h5 := hNb.len_lt (by omega) hNr (by omega)
          have h6 := hdiv.rest
          omega
        · exact h
      have hXlt := hdiv.quo_lt hNa.digs (by omega)
      have hstep := hdiv.step hNa.digs (by omega) (by omega)
      rw [dg_some hp] at hXlt hstep
      obtain ⟨X, hX⟩ : ∃ X, 10000 * r + p = X := ⟨_, rfl⟩
      rw [hX] at hXlt hstep
      have HP := Lib.hid (And.intro hp (And.intro hch0 (And.intro hX (And.intro hXlt (And.intro hstep (And.intro hoq hch))))))
      have HR := Lib.hid (And.intro hNr hrr)
      clear ha hNa hla htop hu hp hch0 hNr hrr hij hdiv hoq hch hX hXlt hstep
      go_wp2_with (at_builtin; refine wpList_app elemInts rfl _ _ rfl rfl (own_lit rfl (by simp only [maxLen]; omega)) rfl (HR.out.2.new ((Chg.refl _ _).alloc _)) (nv_one _) (by simp only [maxLen]; omega) (by omega) (by simp) ?_; intro A3 c3 w3 hown hg3 hat; have HA := Lib.hid (And.intro hown hg3); clear hown hg3 hat)
      obtain ⟨ho3, hg3⟩ := HA.out
      have ho3' : w3.ownsRow wo.heap.size 3 1 (.slice A3 (1 + m) c3) (1 + m) (nv .i64 (p :: lr)) := ho3
      have hn3 : New wo w3 := ((Chg.refl _ wo).alloc _).grown hg3 (fun k hk hlt => by simp [blk] at hk; omega)
      have hcap := own_cap ho3'
      have hval : val 10000 (p :: lr) = X := by rw [val_cons, HR.out.1.val, ← HP.out.2.2.1]; omega
      refine (normal_dm A3 (1 + m) c3 (p :: lr) w3 (Rd.of_own ho3') (Digs.cons hpb HR.out.1.digs) hcap.1 hcap.2).mono ?_
      rintro e w4 ⟨T4, rfl, hdm4, hT4, hn4⟩
      rw [hval] at hdm4
      have hA3 : ∀ k, blk A3 = some k → g < k := fun k hk => by have := own_blk_le ho3' hk; omega
      have H4 := Lib.hid (And.intro hdm4 (And.intro (hn3.new hn4) hA3))
      clear ho3 hg3 ho3' hn3 hcap hval hdm4 hn4 hA3 HA HR hcu
      go_wp2_with fail
      refine Calls.new1 ?_
      intro W5 hb5 hn5 hz5
      obtain ⟨hdm4, hn4, hA3⟩ := H4.out
      have hch5 : Chg (fun k => k = g) w W5 := HP.out.2.1.trans (hn4.new hn5) (fun _ _ h => h.elim)
      refine (digit_any A3 T4 c3 A' n' c' X y W5 (hdm4.new hn5) (HY.out.old hch5 (by rw [HG.out]; exact Nat.le_refl _)) hy1 HP.out.2.2.2.1).mono ?_
      rintro e w6 ⟨lo0, hi0, rfl, ⟨hlo0, hhi0, hhi9⟩, hn6⟩
      obtain ⟨Q, hQ⟩ : ∃ Q, X / y = Q := ⟨_, rfl⟩
      rw [hQ] at hlo0 hhi0
      have H6 := Lib.hid (And.intro ((hdm4.new hn5).new hn6) (And.intro (hn4.new (hn5.new hn6)) (And.intro hA3 (And.intro hQ (hch5.trans hn6 (fun _ _ h => h.elim))))))
      clear hb5 hn5 hz5 hdm4 hn4 hA3 hch5 hn6 hQ H4
      go_wp2_with fail
      go_loopw [12, 13] (fun a b wr => ∃ lo hi : Nat, a = .int .i64 lo ∧ b = .int .i64 hi ∧ lo ≤ Q ∧ Q ≤ hi ∧ hi ≤ 9999 ∧ Hid (New w6 wr)) (fun a b _ => (intOf b - intOf a).toNat)
      case atStart => exact ⟨lo0, hi0, rfl, rfl, hlo0, hhi0, hhi9, Chg.refl _ _⟩
      case round =>
        obtain ⟨wi, rfl⟩ : ∃ wi : World, wi = wr := ⟨_, rfl⟩
        obtain ⟨lo, hi, rfl, rfl, hlo, hhi, hh9, HN⟩ := hrel
        obtain ⟨hdmX, hn6, hA3, hQ, hch6⟩ := H6.out
        have hdmX2 := hdmX.new HN.out
        have hdmY := HY.out.old (hch6.trans HN.out (fun _ _ h => h.elim)) (by rw [HG.out]; exact Nat.le_refl _)
        have HXY := Lib.hid (And.intro hdmX2 hdmY)
        clear hdmX hn6 hA3 hQ hch6 hdmX2 hdmY
        by_cases hlt : lo < hi
        · have hlti : (lo : Int) < (hi : Int) := by omega
          obtain ⟨mid, hmid⟩ : ∃ mid, (lo + hi + 1) / 2 = mid := ⟨_, rfl⟩
          have hmi : ((lo : Int) + (hi : Int) + 1) / 2 = (mid : Int) := by omega
          have hm1 : lo < mid := by omega
          have hm2 : mid ≤ hi := by omega
          clear hmid
          go_wp2_with fail
          refine (small_any A' n' c' y mid wi HXY.out.2 (by omega) (by omega)).mono ?_
          rintro e w7 ⟨R7, m7, d7, rfl, hdm7, hn7⟩
          have H7 := Lib.hid (And.intro hdm7 hn7)
          clear hdm7 hn7
          go_wp2_with fail
          refine (compared_any R7 m7 d7 A3 T4 c3 (y * mid) X w7 H7.out.1 (HXY.out.1.new H7.out.2)).mono ?_
          rintro e w8 ⟨rfl, q8, hq8⟩
          have hn8 : New w6 w8 := by
            have := HN.out.new H7.out.2
            show Chg _ _ _
            rw [hq8]
            exact this.drewN q8
          have HN8 := Lib.hid hn8
          have hiff : y * mid ≤ X ↔ mid ≤ Q := by
            rw [← H6.out.2.2.2.1, Nat.le_div_iff_mul_le (by omega), Nat.mul_comm]
          clear hq8 hn8
          by_cases hc : mid ≤ Q
          · have hcv : decide (cmpI ((y * mid : Nat) : Int) (X : Int) ≤ 0) = true := by
              have := hiff.2 hc
              unfold cmpI
              split
              · decide
              · rw [if_neg (by omega)]; decide
            generalize cmpI ((y * mid : Nat) : Int) (X : Int) = cv at *
            clear hiff
            go_wp2
            go_roundw
            case rel => exact ⟨mid, hi, rfl, rfl, hc, hhi, hh9, HN8.out⟩
            case measure => simp [intOf]; omega
          · have hcv : decide (cmpI ((y * mid : Nat) : Int) (X : Int) ≤ 0) = false := by
              have : ¬ y * mid ≤ X := fun h => hc (hiff.1 h)
              rw [cmpI_gt (by omega)]
              decide
            generalize cmpI ((y * mid : Nat) : Int) (X : Int) = cv at *
            clear hiff
            go_wp2
            go_roundw
            case rel => exact ⟨lo, mid - 1, rfl, by go_num, hlo, by omega, by omega, HN8.out⟩
            case measure => simp [intOf]; omega
        · obtain rfl : lo = Q := by omega
          have hlti : decide ((lo : Int) < (hi : Int)) = false := by simp; omega
          have hlti' : decide (lo < hi) = false := by simp; omega
          go_wp2_with fail
          refine (small_any A' n' c' y lo wi HXY.out.2 (by omega) (by omega)).mono ?_
          rintro e w7 ⟨R7, m7, d7, rfl, hdm7, hn7⟩
          have H7 := Lib.hid (And.intro hdm7 hn7)
          clear hdm7 hn7
          have hle : y * lo ≤ X := by rw [← H6.out.2.2.2.1]; exact Nat.mul_div_le X y
          go_wp2_with fail
          refine (minus_any A3 T4 c3 R7 m7 d7 X (y * lo) w7 (HXY.out.1.new H7.out.2) H7.out.1 hle (by omega)).mono ?_
          rintro e w8 ⟨R8, m8, d8, rfl, ⟨l8, ho8, hd8, hv8⟩, hn8⟩
          have hcap8 := own_cap ho8
          have HN8 := Lib.hid (HN.out.new (H7.out.2.new hn8))
          have hsz8 : g < w7.heap.size := by
            have h1 := H6.out.2.1.size
            have h2 := HN.out.size
            have h3 := H7.out.2.size
            omega
          have H8 := Lib.hid (And.intro ho8 (And.intro hd8 (And.intro hv8 (And.intro hcap8 hn8))))
          clear ho8 hd8 hv8 hcap8 hn8 hle
          go_wp2_with fail
          obtain ⟨ho8, hd8, hv8, hcap8, hn8⟩ := H8.out
          refine (normal_dm R8 m8 d8 l8 w8 (Rd.of_own ho8) hd8 hcap8.1 hcap8.2).mono ?_
          rintro e w9 ⟨T9, rfl, hdm9, hT9, hn9⟩
          rw [hv8] at hdm9
          have hgR : blk R8 ≠ some g := fun e => by have := own_blk_le ho8 e; omega
          have hnow : New wo w9 := H6.out.2.1.new (HN8.out.new hn9)
          have hoW := own_chg HP.out.2.2.2.2.2.1 hnow (fun _ _ h => h)
          have hql : q.length = n := by have := HP.out.2.2.2.2.2.1.1; rw [nv_length] at this; omega
          obtain ⟨z, hz⟩ : ∃ z, q[i]? = some z := ⟨_, List.getElem?_eq_getElem (by omega)⟩
          have hcz := own_cell hoW (i := i) (u := .int .i64 (z : Nat)) (by rw [nv, List.getElem?_map, hz]; rfl)
          obtain ⟨gg, hgg, _, hgs, hfz⟩ := own_form hoW (by omega)
          have hgg' : g = gg := by simpa using hgg
          subst hgg'
          have hf := hfz i
          have HFin : Hid (DM w9 R8 T9 d8 (X - y * lo) ∧ w9.ownsRow g 3 1 (.slice (some ⟨g, 0, none⟩) n n) n (nv .i64 q) ∧ New wo w9) := ⟨hdm9, hoW, hnow⟩
          have HGR := Lib.hid hgR
          have hin : (i : Int) < (n : Int) := by omega
          have hinn : i < n := by omega
          clear ho8 hd8 hv8 hcap8 hn8 hdm9 hn9 hgR hnow hoW hql hz hgg hfz H8 HN8 HN H7 HXY
          go_wp2
          go_roundw
          case rel =>
            obtain ⟨hdm9, ho9, hn9⟩ := HFin.out
            obtain ⟨_, _, _, _, hstep, _, hch⟩ := HP.out
            have hset := own_set ho9 i (.int .i64 (lo : Int)) hinn
            rw [nv_set] at hset
            have hQ := H6.out.2.2.2.1
            rw [hQ] at hstep
            have hmod : X % y = X - y * lo := by rw [← hQ]; have := Nat.div_add_mod X y; omega
            rw [hmod] at hstep
            refine ⟨i, T9, d8, R8, rfl, rfl, by omega, q.set i lo, X - y * lo, hstep, hset.alloc _, ?_, fun _ => HGR.out, ?_⟩
            · exact (hdm9.chg ((Chg.refl (fun k => k = g) w9).setCell (p := ⟨g, i, none⟩) (fun _ => rfl) _) (fun k hk e => HGR.out (by rw [hk, e]))).new ((Chg.refl _ _).alloc _)
            · exact ((hch.trans (hn9.mono (fun _ _ h => h.elim)) (fun _ _ h => h)).setCell (fun _ => rfl) _).alloc _
          case measure => simp [intOf]
end Go.Proofs.Ytcjbndlhomokpaa
