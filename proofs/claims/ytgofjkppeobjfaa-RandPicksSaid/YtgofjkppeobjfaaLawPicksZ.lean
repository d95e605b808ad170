/- The walk of refuterlaw05.RandPicks. -/
import Derived.Test.YtgofjkppeobjfaaB5
import Derived.Test.YtgofjkppeobjfaaRefOZ
import Derived.Test.YtgofjkppeobjfaaPicksReg2Z
import Derived.Test.YtgofjkppeobjfaaArgsZ
import Derived.Deep.RegionLaw
import Derived.Deep.CutRange
namespace Go.Proofs.Ytgofjkppeobjfaa
set_option linter.unusedVariables false
open Go.RowKit Go.Mem Go.Dig Go.Pure

theorem pick01_at (A : Option Addr) (n c : Nat) (l : List Int) (hl : ∀ z ∈ l, -9223372036854775808 ≤ z ∧ z ≤ 9223372036854775807) (i : Int) (k : Nat) (hi : i = (k : Int)) (most : Int) (hm : 1 ≤ most) (hm2 : most ≤ 1000000000) (w : World) (hr : Rd w A n (is l)) (hn : n ≤ 9223372036854775807) :
    Calls Try.prog 6 #[.slice A n c, .int .i64 i, .int .i64 most] w fun e w' => e = .returned (.int .i64 (pickI l k most)) ∧ w = w' := by
  subst hi
  exact pick01_any A n c l hl k most hm hm2 w hr hn
/-- Where a place is found its weight is not 0. -/
theorem seek_pos {l : List Int} : ∀ {r : Int} {k j : Nat}, 0 ≤ r → seek l r k = some j → ∃ z, k ≤ j ∧ l[j - k]? = some z ∧ z ≠ 0 := by
  induction l with
  | nil => intro r k j _ h; cases h
  | cons x l ih =>
    intro r k j h0 h
    unfold seek at h
    split at h
    · injection h with h
      subst h
      exact ⟨x, Nat.le_refl _, by simp, by omega⟩
    · by_cases hx : r - x < 0
      · omega
      · obtain ⟨z, h1, h2, h3⟩ := ih (by omega) h
        refine ⟨z, by omega, ?_, h3⟩
        rw [show j - k = (j - (k + 1)) + 1 by omega, List.getElem?_cons_succ]
        exact h2
theorem pickR_pos {seed : Int} {lab : List UInt8} {i : Int} {l : List Int} (h : (pickR seed lab i l).2.2 = 0) : ∃ j : Nat, ∃ z, (pickR seed lab i l).1 = (j : Int) ∧ l[j]? = some z ∧ z ≠ 0 := by
  unfold pickR at *
  split at h
  · cases h
  · rename_i hb
    rw [if_neg hb]
    generalize hS : wordI seed lab (i + takenN seed lab i l.sum.toNat) % l.sum = r at *
    have hgood : goodW l := by
      rcases Classical.em (goodW l) with h1 | h1
      · exact h1
      · exact absurd (.inr (.inr (.inl h1))) hb
    have hs0 : l.sum ≠ 0 := fun e => hb (.inr (.inr (.inr e)))
    have hr : 0 ≤ r := by rw [← hS]; exact Int.emod_nonneg _ hs0
    split at h
    · rename_i j hj
      obtain ⟨z, h1, h2, h3⟩ := seek_pos hr hj
      exact ⟨j, z, rfl, h2, h3⟩
    · cases h
theorem pick_pair (seed : Int) (s : ByteArray) (hs : s.size ≤ 1000000) (i : Int) (hi : 0 ≤ i ∧ i ≤ 1000000000) (A : Option Addr) (n c : Nat) (l : List Int) (hn : n ≤ 10000) : ∃ a y er : Int, (er = 0 → ∃ j : Nat, ∃ z, a = (j : Int) ∧ l[j]? = some z ∧ z ≠ 0) ∧
    (∀ W, Rd W A n (is l) → Calls Try.prog 7 #[.int .u64 seed, .string s, .int .i64 i, .slice A n c] W fun e w' => e = .returned (.tuple #[.int .i64 a, .int .i64 y, .int .i64 er]) ∧ New W w') ∧
    (∀ W, Rd W A n (is l) → Calls Try.prog 8 #[.int .u64 seed, .string s, .int .i64 i, .slice A n c] W fun e w' => e = .returned (.tuple #[.int .i64 a, .int .i64 y, .int .i64 er]) ∧ New W w') :=
  ⟨_, _, _, fun h => pickR_pos h, fun W h => pick_any seed s hs i hi A n c l W h (by omega), fun W h => rpick_any seed s hs i hi A n c l W h hn⟩

/-- Slices of ints that read as lists. -/
def ListsI (W : World) (vs : List Value) (ls : List (List Int)) : Prop := vs.length = ls.length ∧ ∀ (i : Nat) (v : Value) (l : List Int), vs[i]? = some v → ls[i]? = some l → ∃ A n c, v = .slice A n c ∧ n ≤ 10000 ∧ Rd W A n (is l)
theorem ListsI.new {W W' : World} {vs : List Value} {ls : List (List Int)} (h : ListsI W vs ls) (hn : New W W') : ListsI W' vs ls :=
  ⟨h.1, fun i v l hv hl => by obtain ⟨A, n, c, h1, h2, h3⟩ := h.2 i v l hv hl; exact ⟨A, n, c, h1, h2, h3.new hn⟩⟩
theorem ListsI.nil (W : World) : ListsI W [] [] := ⟨rfl, fun i v l hv _ => by simp at hv⟩
theorem ListsI.cons {W : World} {vs : List Value} {ls : List (List Int)} {A : Option Addr} {n c : Nat} {l : List Int} (h : ListsI W vs ls) (hn : n ≤ 10000) (hr : Rd W A n (is l)) : ListsI W (.slice A n c :: vs) (l :: ls) := by
  refine ⟨by simp [h.1], fun i v x hv hx => ?_⟩
  cases i with
  | zero => simp at hv hx; subst hv hx; exact ⟨A, n, c, rfl, hn, hr⟩
  | succ i => exact h.2 i v x (by simpa using hv) (by simpa using hx)
set_option maxRecDepth 100000 in
set_option maxHeartbeats 8000000 in
theorem randPicks_walk (seed : Int) (i : Int) (A : Option Addr) (n c : Nat) (l : List Int) (at_ m : Int) (w : World) (hi : -9223372036854775808 ≤ i ∧ i ≤ 9223372036854775807) (hat : -9223372036854775808 ≤ at_ ∧ at_ ≤ 9223372036854775807)
    (hr : Rd w A n (is l)) (hnc : n ≤ c) (hc : c ≤ 9223372036854775807) (hl : ∀ z ∈ l, -9223372036854775808 ≤ z ∧ z ≤ 9223372036854775807) :
    Calls Try.prog 3 #[.int .u64 seed, .int .i64 i, .slice A n c, .int .i64 at_, .int .i64 m] w fun e w' => e = .returned (.bool true) ∧ New w w' := by
  have HN := Lib.hid (And.intro hi (And.intro hat (And.intro hr hl)))
  clear hi hat hr hl
  go_enter Try.func3, Try.ntmps3
  go_wp2_with fail
  refine (around_any i 1000000 w HN.out.1.1 HN.out.1.2 (by omega) (by omega)).mono ?_
  rintro e w1 ⟨rfl, rfl⟩
  obtain ⟨a0, ha, hab⟩ : ∃ a : Int, aroundI i 1000000 = a ∧ (0 ≤ a ∧ a ≤ 1000000000) := by
    have := aroundI_range i 1000000 (by omega)
    exact ⟨_, rfl, by omega, by omega⟩
  rw [ha]
  have HAB := Lib.hid hab
  clear ha hab
  obtain ⟨M, hM, hM8⟩ : ∃ M : Nat, pickI l 0 8 = (M : Int) ∧ M < 8 := by
    have := pickI_range l 0 8 (by omega)
    exact ⟨(pickI l 0 8).toNat, by omega, by omega⟩
  have HM := Lib.hid hM
  clear hM
  go_wp2_with fail
  go_loopw [12, 13] (fun v j wr => ∃ k : Nat, ∃ A1 c1 L, v = .slice A1 k c1 ∧ j = .int .i64 k ∧ k ≤ M ∧ Hid (wr.ownsRow w.heap.size 3 1 (.slice A1 k c1) k (is L) ∧ New w wr)) (fun _ j _ => M - (intOf j).toNat)
  case atStart => exact ⟨0, none, 0, [], rfl, rfl, by omega, World.ownsRow_nil _ _ _ _, Chg.refl _ _⟩
  case round =>
    obtain ⟨k, A1, c1, L, rfl, rfl, hk, HO⟩ := hrel
    go_wp2_with fail
    refine (pick01_at A n c l HN.out.2.2.2 0 0 rfl 8 (by omega) (by omega) wr (HN.out.2.2.1.new HO.out.2) (by omega)).mono ?_
    rw [HM.out]
    rintro e w1 ⟨rfl, rfl⟩
    by_cases hlt : k < M
    · have hlti : (k : Int) < (M : Int) := by omega
      obtain ⟨p, hp, hp9⟩ : ∃ p : Nat, pickI l (k + 1) 9 = (p : Int) ∧ p < 9 := by
        have := pickI_range l (k + 1) 9 (by omega)
        exact ⟨(pickI l (k + 1) 9).toNat, by omega, by omega⟩
      obtain ⟨q, hq, hq3⟩ : ∃ q : Nat, pickI l (k + 2) 3 = (q : Int) ∧ q < 3 := by
        have := pickI_range l (k + 2) 3 (by omega)
        exact ⟨(pickI l (k + 2) 3).toNat, by omega, by omega⟩
      have HPQ := Lib.hid (And.intro hp hq)
      clear hp hq
      go_wp2_with fail
      refine (pick01_at A n c l HN.out.2.2.2 ((k : Int) + 1) (k + 1) (by omega) 9 (by omega) (by omega) wr (HN.out.2.2.1.new HO.out.2) (by omega)).mono ?_
      rw [HPQ.out.1]
      rintro e w1 ⟨rfl, rfl⟩
      go_wp2_with fail
      refine (pick01_at A n c l HN.out.2.2.2 ((k : Int) + 2) (k + 2) (by omega) 3 (by omega) (by omega) wr (HN.out.2.2.1.new HO.out.2) (by omega)).mono ?_
      rw [HPQ.out.2]
      rintro e w1 ⟨rfl, rfl⟩
      obtain ⟨pq, hpq⟩ : ∃ pq : Nat, p * q = pq := ⟨_, rfl⟩
      have hpqi : (p : Int) * (q : Int) = (pq : Int) := by rw [← hpq]; simp
      have hpqb : pq ≤ 100 := by rw [← hpq]; exact Nat.le_trans (Nat.mul_le_mul (show p ≤ 9 by omega) (show q ≤ 3 by omega)) (by decide)
      clear hpq
      go_wp2_with (at_builtin; refine wpList_app elemInts rfl _ _ rfl rfl (HO.out.1.alloc _) rfl (Rd.lit (is [(pq : Int)]) rfl) (is_one _) (by simp only [maxLen]; omega) (by omega) (by have := HO.out.2.size; simp; omega) ?_; intro A' c' w1 hown hg hat; have HA := Lib.hid (And.intro hown hg); clear hown hg hat)
      go_roundw
      case rel =>
        obtain ⟨hown, hg⟩ := HA.out
        rw [← is_append] at hown
        refine ⟨k + 1, A', c', L ++ [(pq : Int)], rfl, by go_num, by omega, hown, ?_⟩
        exact (HO.out.2.alloc _).grown hg (fun k hk hlt => by have := own_blk_le HO.out.1 hk; omega)
      case measure => simp [intOf]; omega
    · have hlti : decide ((k : Int) < (M : Int)) = false := by simp; omega
      have hlti' : decide (k < M) = false := by simp; omega
      have hk8 : k ≤ 8 := by omega
      by_cases hk0 : k = 0
      · subst hk0
        go_wp2_with (at_builtin; refine wpList_app elemInts rfl _ _ rfl rfl (own_lit rfl (by simp only [maxLen]; omega)) rfl ((Rd.of_own HO.out.1).new ((Chg.refl _ _).alloc _)) (is_one _) (by simp only [maxLen]; omega) (by omega) (by simp) ?_; intro A2 c2 w2 hown hg hat; have HA := Lib.hid (And.intro hown hg); clear hown hg hat)
        obtain ⟨hown, hg⟩ := HA.out
        have hn2 : New wr w2 := ((Chg.refl _ wr).alloc _).grown hg (fun k hk hlt => by simp [blk] at hk; omega)
        rw [show (#[] : Array Value).toList ++ is L = is L by simp] at hown
        rw [Nat.zero_add] at hown
        have H2 := Lib.hid (And.intro ((Rd.of_own HO.out.1).new hn2) (And.intro hown (HO.out.2.new hn2)))
        have HB1 : Hid (wr.heap.size ≤ w2.heap.size ∧ w.heap.size ≤ wr.heap.size ∧ ∀ j, blk A1 = some j → j < wr.heap.size) := ⟨hn2.size, HO.out.2.size, fun j hj => (own_blk_le HO.out.1 hj).2⟩
        clear hown hg hn2 HA HO
        have HX : Hid (Rd w2 A1 0 (is L) ∧ Rd w2 A2 0 (is L) ∧ New w w2) := ⟨H2.out.1, Rd.of_own H2.out.2.1, H2.out.2.2⟩
        clear H2
        have r3 := aroundI_range at_ 3 (by omega)
        have r12 := aroundI_range at_ 12 (by omega)
        obtain ⟨d3, hd3⟩ : ∃ d : Nat, aroundI at_ 3 = (d : Int) := ⟨(aroundI at_ 3).toNat, by omega⟩
        obtain ⟨d12, hd12⟩ : ∃ d : Nat, aroundI at_ 12 = (d : Int) := ⟨(aroundI at_ 12).toNat, by omega⟩
        have hd3b : d3 < 3 := by omega
        have hd12b : d12 < 12 := by omega
        have hmk3 := fun W => run_mk elemInts rfl d3 (d3 : Int) rfl (by omega) (by omega) W
        obtain ⟨D, hD⟩ : ∃ D, 4090 + d12 = D := ⟨_, rfl⟩
        have hDb : D ≤ 4110 := by omega
        have hDi : IntKind.i64.wrap (4090 + (d12 : Int)) = (D : Int) := by rw [IntWalk.i64_in _ (by omega)]; omega
        have hmkD := fun W => run_mk elemInts rfl D (D : Int) rfl (by omega) (by omega) W
        have HAR := Lib.hid (And.intro (fun W => around_any at_ 3 W HN.out.2.1.1 HN.out.2.1.2 (by omega) (by omega)) (And.intro (fun W => around_any at_ 12 W HN.out.2.1.1 HN.out.2.1.2 (by omega) (by omega)) (And.intro hd3 hd12)))
        have HD := Lib.hid hD
        clear r3 r12 hd3 hd12 hD
        go_upto_region 10 with fail
        generalize hWb : w2 = Wb at *
        clear hWb
        go_cut [15] from 56 to 67 (fun v wc => ∃ A3 vs ls, v = .slice A3 4 4 ∧ Hid (Rd wc A3 4 vs ∧ ListsI wc vs ls ∧ New w wc))
        case first =>
          refine lists_region (by kernel_rfl) (ord_of (by kernel_rfl)) rfl (by simp) (IsOp.of _ rfl rfl rfl rfl (by kernel_rfl)) (IsOp.of _ rfl rfl rfl rfl (by kernel_rfl)) (IsOp.of _ rfl rfl rfl rfl (by kernel_rfl)) (IsOp.of _ rfl rfl rfl rfl (by kernel_rfl)) (IsOp.of _ rfl rfl rfl rfl (by kernel_rfl)) (IsOp.of _ rfl rfl rfl rfl (by kernel_rfl)) (IsOp.of _ rfl rfl rfl rfl (by kernel_rfl)) (IsOp.of _ rfl rfl rfl rfl (by kernel_rfl)) (IsOp.of _ rfl rfl rfl rfl (by kernel_rfl)) (IsOp.of _ rfl rfl rfl rfl (by kernel_rfl)) (IsOp.of _ rfl rfl rfl rfl (by kernel_rfl)) (IsOp.of _ rfl rfl rfl rfl (by kernel_rfl)) (IsOp.of _ rfl rfl rfl rfl (by kernel_rfl)) (.slice A1 0 c1) (.slice A2 0 c2) at_ d3 d12 D (by omega) HD.out (by omega) rfl rfl rfl ?har3 ?har12 (enters_of Try.func5 (by kernel_rfl) rfl) ?hb1 ?hb4 ?hadd
            (fun v wc => ∃ A3 vs ls, v = .slice A3 4 4 ∧ Hid (Rd wc A3 4 vs ∧ ListsI wc vs ls ∧ New w wc)) ?hR ?hRmk ?hdone
          case har3 => exact fun W => by have := HAR.out.1 W; rwa [HAR.out.2.2.1] at this
          case har12 => exact fun W => by have := HAR.out.2.1 W; rwa [HAR.out.2.2.2] at this
          case hb1 => exact fun W => by go_simp
          case hb4 => exact fun W A3 A c => by go_simp
          case hadd => exact fun W => by rw [← hDi]; go_simp
          case hR =>
            rintro v W W' ⟨A3, vs, ls, rfl, H⟩ hn
            exact ⟨A3, vs, ls, rfl, H.out.1.new hn, H.out.2.1.new hn, H.out.2.2.new hn⟩
          case hRmk =>
            intro W A4 c4 g4 hn hr3 hr4
            obtain ⟨hx1, hx2, hnw⟩ := HX.out
            refine ⟨_, _, [L, L, List.replicate d3 0, List.replicate D 0 ++ [1]], rfl, Rd.lit [_, _, _, _] rfl, ListsI.new ?_ ((Chg.refl _ _).alloc _), (hnw.new hn).alloc _⟩
            exact ((((ListsI.nil _).cons (by omega) hr4).cons (by omega) hr3).cons (by omega) (hx2.new hn)).cons (by omega) (hx1.new hn)
          case hdone =>
            intro f w' v hf hRv hn hs
            rw [upd_sets hn hs]
            obtain ⟨A3, vs, ls, rfl, H⟩ := hRv
            simp only [List.foldl_cons, List.foldl_nil, List.setIfInBounds_toArray, List.set_cons_succ, List.set_cons_zero, hf, Option.getD_some]
            clear hn hs hf
            go_wp2_with fail
            go_meet
            case rel => exact ⟨A3, vs, ls, rfl, H⟩
        case rest =>
          obtain ⟨A3, vs, ls, rfl, H3⟩ := hcut
          clear HX HAR hmk3 hmkD hDi
          go_wp2_with fail
          go_loopw [16] (fun v wr2 => ∃ q : Nat, v = .int .i64 (q : Int) ∧ q ≤ 4 ∧ Hid (New wc wr2)) (fun v _ => 4 - (intOf v).toNat)
          case atStart => exact ⟨0, rfl, by omega, Chg.refl _ _⟩
          case round =>
            obtain ⟨q, rfl, hq, HQ⟩ := hrel
            obtain ⟨wo, rfl⟩ : ∃ wo : World, wo = wr := ⟨_, rfl⟩
            by_cases hq4 : q < 4
            · obtain ⟨ad, u, rfl, hu, hcu0⟩ := H3.out.1.at_ hq4
              have hcu := HQ.out.cell hcu0 (fun h => h)
              obtain ⟨lq, hlq⟩ : ∃ l, ls[q]? = some l := ⟨_, List.getElem?_eq_getElem (by have := H3.out.1.1; have := H3.out.2.1.1; omega)⟩
              obtain ⟨Aq, nq, cq, rfl, hnq, hrq⟩ := H3.out.2.1.2 q u lq hu hlq
              obtain ⟨a, y, er, hz, hp1, hp2⟩ := pick_pair seed ⟨#[116, 101, 115, 116]⟩ (by decide) a0 HAB.out Aq nq cq lq hnq
              have hqi : (q : Int) < 4 := by omega
              have HP := Lib.hid (And.intro hp1 (And.intro hp2 (And.intro hz (And.intro hrq hcu0))))
              clear hp1 hp2 hz hrq hcu0 hu hlq
              go_wp2_with fail
              refine (HP.out.1 _ (HP.out.2.2.2.1.new HQ.out)).mono ?_
              rintro e w4 ⟨rfl, hn4⟩
              have H4 := Lib.hid (HQ.out.new hn4)
              have hcu4 := H4.out.cell HP.out.2.2.2.2 (fun h => h)
              clear hcu hn4
              go_wp2_with fail
              refine (HP.out.2.1 _ (HP.out.2.2.2.1.new H4.out)).mono ?_
              rintro e w5 ⟨rfl, hn5⟩
              have H5 := Lib.hid (H4.out.new hn5)
              have hcu5 := H5.out.cell HP.out.2.2.2.2 (fun h => h)
              clear hcu4 hn5
              by_cases her : er = 0
              · obtain ⟨j, z, rfl, hj, hz0⟩ := HP.out.2.2.1 her
                subst her
                have hjn : j < nq := by
                  have h1 := (List.getElem?_eq_some_iff.1 hj).1
                  have h2 := HP.out.2.2.2.1.1
                  rw [is_length] at h2
                  omega
                have hjni : (j : Int) < (nq : Int) := by omega
                obtain ⟨bd, u2, rfl, hu2, hcj⟩ := (HP.out.2.2.2.1.new H5.out).at_ hjn
                obtain ⟨z2, hz2, rfl⟩ := is_at hu2
                rw [hj] at hz2
                injection hz2 with hz2
                subst hz2
                have hzb : (z == 0) = false := by simpa using hz0
                clear hj hz0 hu2
                go_wp2
                go_roundw
                case rel => exact ⟨q + 1, by go_num, by omega, H5.out⟩
                case measure => simp [intOf]; omega
              · have heb : (er == 0) = false := by simpa using her
                clear her
                go_wp2
                go_roundw
                case rel => exact ⟨q + 1, by go_num, by omega, H5.out⟩
                case measure => simp [intOf]; omega
            · obtain rfl : q = 4 := by omega
              go_wp2_with fail
              refine (lives_any _).mono ?_
              rintro e w9 ⟨rfl, hn9⟩
              have H9 := Lib.hid (H3.out.2.2.new (HQ.out.new hn9))
              clear hn9
              go_wp2
              go_ret
              exact ⟨rfl, H9.out⟩
      · have hkp : (0 : Int) < (k : Int) := by omega
        have hkp' : 0 < k := by omega
        go_wp2_with (at_builtin; refine wpList_app elemInts rfl _ _ rfl rfl (own_lit rfl (by simp only [maxLen]; omega)) rfl ((Rd.of_own HO.out.1).new ((Chg.refl _ _).alloc _)) (is_one _) (by simp only [maxLen]; omega) (by omega) (by simp) ?_; intro A2 c2 w2 hown hg hat; have HA := Lib.hid (And.intro hown hg); clear hown hg hat)
        obtain ⟨hown, hg⟩ := HA.out
        have hn2 : New wr w2 := ((Chg.refl _ wr).alloc _).grown hg (fun k hk hlt => by simp [blk] at hk; omega)
        rw [show (#[] : Array Value).toList ++ is L = is L by simp] at hown
        rw [Nat.zero_add] at hown
        have H2 := Lib.hid (And.intro ((Rd.of_own HO.out.1).new hn2) (And.intro hown (HO.out.2.new hn2)))
        have HB1 : Hid (wr.heap.size ≤ w2.heap.size ∧ w.heap.size ≤ wr.heap.size ∧ ∀ j, blk A1 = some j → j < wr.heap.size) := ⟨hn2.size, HO.out.2.size, fun j hj => (own_blk_le HO.out.1 hj).2⟩
        clear hown hg hn2 HA HO
        refine (around_any at_ (k : Int) w2 HN.out.2.1.1 HN.out.2.1.2 (by omega) (by omega)).mono ?_
        rintro e w3 ⟨rfl, rfl⟩
        obtain ⟨ix, hix, hixk⟩ : ∃ ix : Nat, aroundI at_ (k : Int) = (ix : Int) ∧ ix < k := by
          have := aroundI_range at_ (k : Int) (by omega)
          exact ⟨(aroundI at_ (k : Int)).toNat, by omega, by omega⟩
        rw [hix]
        have hixi : (ix : Int) < (k : Int) := by omega
        obtain ⟨g, hA2, hg1, hg2, hfz⟩ := own_form H2.out.2.1 (by omega)
        subst hA2
        have hLl : L.length = k := by have := H2.out.2.1.1; rw [is_length] at this; omega
        obtain ⟨z, hz⟩ : ∃ z, L[ix]? = some z := ⟨_, List.getElem?_eq_getElem (by omega)⟩
        have hcz := own_cell H2.out.2.1 (i := ix) (u := .int .i64 z) (by unfold is; rw [List.getElem?_map, hz]; rfl)
        have hf := hfz ix
        have hst : Rd (w2.setCell ⟨g, ix, none⟩ (.int .i64 m)) (some ⟨g, 0, none⟩) k (is (L.set ix m)) := by
          have := Rd.of_own (own_set H2.out.2.1 ix (.int .i64 m) hixk)
          rwa [show (is L).set ix (.int .i64 m) = is (L.set ix m) by simp [is, List.map_set]] at this
        have hch : Chg (fun k => k = g) w2 (w2.setCell ⟨g, ix, none⟩ (.int .i64 m)) := (Chg.refl (fun k => k = g) w2).setCell (p := ⟨g, ix, none⟩) (fun _ => rfl) _
        have hw1 : Rd (w2.setCell ⟨g, ix, none⟩ (.int .i64 m)) A1 k (is L) := H2.out.1.chg hch (fun j hj _ e => by have := HB1.out.2.2 j hj; omega)
        have hnw : New w (w2.setCell ⟨g, ix, none⟩ (.int .i64 m)) := H2.out.2.2.trans hch (fun j hj e => by have := HB1.out.2.1; omega)
        have HX : Hid (Rd (w2.setCell ⟨g, ix, none⟩ (.int .i64 m)) A1 k (is L) ∧ Rd (w2.setCell ⟨g, ix, none⟩ (.int .i64 m)) (some ⟨g, 0, none⟩) k (is (L.set ix m)) ∧ New w (w2.setCell ⟨g, ix, none⟩ (.int .i64 m))) := ⟨hw1, hst, hnw⟩
        clear hix hLl hz hfz hst hch hw1 hnw H2
        have r3 := aroundI_range at_ 3 (by omega)
        have r12 := aroundI_range at_ 12 (by omega)
        obtain ⟨d3, hd3⟩ : ∃ d : Nat, aroundI at_ 3 = (d : Int) := ⟨(aroundI at_ 3).toNat, by omega⟩
        obtain ⟨d12, hd12⟩ : ∃ d : Nat, aroundI at_ 12 = (d : Int) := ⟨(aroundI at_ 12).toNat, by omega⟩
        have hd3b : d3 < 3 := by omega
        have hd12b : d12 < 12 := by omega
        have hmk3 := fun W => run_mk elemInts rfl d3 (d3 : Int) rfl (by omega) (by omega) W
        obtain ⟨D, hD⟩ : ∃ D, 4090 + d12 = D := ⟨_, rfl⟩
        have hDb : D ≤ 4110 := by omega
        have hDi : IntKind.i64.wrap (4090 + (d12 : Int)) = (D : Int) := by rw [IntWalk.i64_in _ (by omega)]; omega
        have hmkD := fun W => run_mk elemInts rfl D (D : Int) rfl (by omega) (by omega) W
        have HAR := Lib.hid (And.intro (fun W => around_any at_ 3 W HN.out.2.1.1 HN.out.2.1.2 (by omega) (by omega)) (And.intro (fun W => around_any at_ 12 W HN.out.2.1.1 HN.out.2.1.2 (by omega) (by omega)) (And.intro hd3 hd12)))
        have HD := Lib.hid hD
        clear r3 r12 hd3 hd12 hD
        go_upto_region 10 with fail
        generalize hWb : (w2.setCell ⟨g, ix, none⟩ (.int .i64 m)) = Wb at *
        clear hWb
        go_cut [15] from 56 to 67 (fun v wc => ∃ A3 vs ls, v = .slice A3 4 4 ∧ Hid (Rd wc A3 4 vs ∧ ListsI wc vs ls ∧ New w wc))
        case first =>
          refine lists_region (by kernel_rfl) (ord_of (by kernel_rfl)) rfl (by simp) (IsOp.of _ rfl rfl rfl rfl (by kernel_rfl)) (IsOp.of _ rfl rfl rfl rfl (by kernel_rfl)) (IsOp.of _ rfl rfl rfl rfl (by kernel_rfl)) (IsOp.of _ rfl rfl rfl rfl (by kernel_rfl)) (IsOp.of _ rfl rfl rfl rfl (by kernel_rfl)) (IsOp.of _ rfl rfl rfl rfl (by kernel_rfl)) (IsOp.of _ rfl rfl rfl rfl (by kernel_rfl)) (IsOp.of _ rfl rfl rfl rfl (by kernel_rfl)) (IsOp.of _ rfl rfl rfl rfl (by kernel_rfl)) (IsOp.of _ rfl rfl rfl rfl (by kernel_rfl)) (IsOp.of _ rfl rfl rfl rfl (by kernel_rfl)) (IsOp.of _ rfl rfl rfl rfl (by kernel_rfl)) (IsOp.of _ rfl rfl rfl rfl (by kernel_rfl)) (.slice A1 k c1) (.slice (some ⟨g, 0, none⟩) k c2) at_ d3 d12 D (by omega) HD.out (by omega) rfl rfl rfl ?har3B ?har12B (enters_of Try.func5 (by kernel_rfl) rfl) ?hb1B ?hb4B ?haddB
            (fun v wc => ∃ A3 vs ls, v = .slice A3 4 4 ∧ Hid (Rd wc A3 4 vs ∧ ListsI wc vs ls ∧ New w wc)) ?hRB ?hRmkB ?hdoneB
          case har3B => exact fun W => by have := HAR.out.1 W; rwa [HAR.out.2.2.1] at this
          case har12B => exact fun W => by have := HAR.out.2.1 W; rwa [HAR.out.2.2.2] at this
          case hb1B => exact fun W => by go_simp
          case hb4B => exact fun W A3 A c => by go_simp
          case haddB => exact fun W => by rw [← hDi]; go_simp
          case hRB =>
            rintro v W W' ⟨A3, vs, ls, rfl, H⟩ hn
            exact ⟨A3, vs, ls, rfl, H.out.1.new hn, H.out.2.1.new hn, H.out.2.2.new hn⟩
          case hRmkB =>
            intro W A4 c4 g4 hn hr3 hr4
            obtain ⟨hx1, hx2, hnw⟩ := HX.out
            refine ⟨_, _, [L, L.set ix m, List.replicate d3 0, List.replicate D 0 ++ [1]], rfl, Rd.lit [_, _, _, _] rfl, ListsI.new ?_ ((Chg.refl _ _).alloc _), (hnw.new hn).alloc _⟩
            exact ((((ListsI.nil _).cons (by omega) hr4).cons (by omega) hr3).cons (by omega) (hx2.new hn)).cons (by omega) (hx1.new hn)
          case hdoneB =>
            intro f w' v hf hRv hn hs
            rw [upd_sets hn hs]
            obtain ⟨A3, vs, ls, rfl, H⟩ := hRv
            simp only [List.foldl_cons, List.foldl_nil, List.setIfInBounds_toArray, List.set_cons_succ, List.set_cons_zero, hf, Option.getD_some]
            clear hn hs hf
            go_wp2_with fail
            go_meet
            case rel => exact ⟨A3, vs, ls, rfl, H⟩
        case rest =>
          obtain ⟨A3, vs, ls, rfl, H3⟩ := hcut
          clear HX HAR hmk3 hmkD hDi
          go_wp2_with fail
          go_loopw [16] (fun v wr2 => ∃ q : Nat, v = .int .i64 (q : Int) ∧ q ≤ 4 ∧ Hid (New wc wr2)) (fun v _ => 4 - (intOf v).toNat)
          case atStart => exact ⟨0, rfl, by omega, Chg.refl _ _⟩
          case round =>
            obtain ⟨q, rfl, hq, HQ⟩ := hrel
            obtain ⟨wo, rfl⟩ : ∃ wo : World, wo = wr := ⟨_, rfl⟩
            by_cases hq4 : q < 4
            · obtain ⟨ad, u, rfl, hu, hcu0⟩ := H3.out.1.at_ hq4
              have hcu := HQ.out.cell hcu0 (fun h => h)
              obtain ⟨lq, hlq⟩ : ∃ l, ls[q]? = some l := ⟨_, List.getElem?_eq_getElem (by have := H3.out.1.1; have := H3.out.2.1.1; omega)⟩
              obtain ⟨Aq, nq, cq, rfl, hnq, hrq⟩ := H3.out.2.1.2 q u lq hu hlq
              obtain ⟨a, y, er, hz, hp1, hp2⟩ := pick_pair seed ⟨#[116, 101, 115, 116]⟩ (by decide) a0 HAB.out Aq nq cq lq hnq
              have hqi : (q : Int) < 4 := by omega
              have HP := Lib.hid (And.intro hp1 (And.intro hp2 (And.intro hz (And.intro hrq hcu0))))
              clear hp1 hp2 hz hrq hcu0 hu hlq
              go_wp2_with fail
              refine (HP.out.1 _ (HP.out.2.2.2.1.new HQ.out)).mono ?_
              rintro e w4 ⟨rfl, hn4⟩
              have H4 := Lib.hid (HQ.out.new hn4)
              have hcu4 := H4.out.cell HP.out.2.2.2.2 (fun h => h)
              clear hcu hn4
              go_wp2_with fail
              refine (HP.out.2.1 _ (HP.out.2.2.2.1.new H4.out)).mono ?_
              rintro e w5 ⟨rfl, hn5⟩
              have H5 := Lib.hid (H4.out.new hn5)
              have hcu5 := H5.out.cell HP.out.2.2.2.2 (fun h => h)
              clear hcu4 hn5
              by_cases her : er = 0
              · obtain ⟨j, z, rfl, hj, hz0⟩ := HP.out.2.2.1 her
                subst her
                have hjn : j < nq := by
                  have h1 := (List.getElem?_eq_some_iff.1 hj).1
                  have h2 := HP.out.2.2.2.1.1
                  rw [is_length] at h2
                  omega
                have hjni : (j : Int) < (nq : Int) := by omega
                obtain ⟨bd, u2, rfl, hu2, hcj⟩ := (HP.out.2.2.2.1.new H5.out).at_ hjn
                obtain ⟨z2, hz2, rfl⟩ := is_at hu2
                rw [hj] at hz2
                injection hz2 with hz2
                subst hz2
                have hzb : (z == 0) = false := by simpa using hz0
                clear hj hz0 hu2
                go_wp2
                go_roundw
                case rel => exact ⟨q + 1, by go_num, by omega, H5.out⟩
                case measure => simp [intOf]; omega
              · have heb : (er == 0) = false := by simpa using her
                clear her
                go_wp2
                go_roundw
                case rel => exact ⟨q + 1, by go_num, by omega, H5.out⟩
                case measure => simp [intOf]; omega
            · obtain rfl : q = 4 := by omega
              go_wp2_with fail
              refine (lives_any _).mono ?_
              rintro e w9 ⟨rfl, hn9⟩
              have H9 := Lib.hid (H3.out.2.2.new (HQ.out.new hn9))
              clear hn9
              go_wp2
              go_ret
              exact ⟨rfl, H9.out⟩
end Go.Proofs.Ytgofjkppeobjfaa
