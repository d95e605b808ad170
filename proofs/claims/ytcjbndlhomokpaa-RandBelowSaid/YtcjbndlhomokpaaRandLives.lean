/- Contracts of refuterref01.SameInts, rand.Shuffle, rand.Big at 1, refuterlaw05.lives. -/
import Derived.Test.YtcjbndlhomokpaaRandPick
import Derived.Test.YtcjbndlhomokpaaRandOrder
import Derived.Test.YtcjbndlhomokpaaWideB
import Derived.Test.YtcjbndlhomokpaaMemMk
namespace Go.Proofs.Ytcjbndlhomokpaa
set_option linter.unusedVariables false
open Go.RowKit Go.Mem Go.Dig Go.Pure

theorem sameI_step {a b : List Int} {k : Nat} {x y : Int} (h : a.take k = b.take k) (hx : a[k]? = some x) (hy : b[k]? = some y) (e : x = y) : a.take (k + 1) = b.take (k + 1) := by
  rw [List.take_add_one, List.take_add_one, h, hx, hy, e]

set_option maxHeartbeats 1000000 in
theorem sameInts_any (A B : Option Addr) (n m c d : Nat) (la lb : List Int) (w : World) (ha : Rd w A n (is la)) (hb : Rd w B m (is lb)) (hn : n ≤ 9223372036854775807) (hm : m ≤ 9223372036854775807) :
    Calls Try.prog 36 #[.slice A n c, .slice B m d] w fun e w' => e = .returned (.bool (decide (la = lb))) ∧ ∃ m, w' = w.drewN m := by
  have hla : la.length = n := by have := ha.len; rwa [is_length] at this
  have hlb : lb.length = m := by have := hb.len; rwa [is_length] at this
  by_cases h : n = m
  · subst h
    have HA := Lib.hid hla
    have HB := Lib.hid hlb
    clear hla hlb
    go_enter Try.func36, Try.ntmps36
    go_wp2
    go_loopw [5] (fun i wr => ∃ k : Nat, k ≤ n ∧ i = .int .i64 k ∧ la.take k = lb.take k ∧ ∃ q, wr = w.drewN q) (fun i _ => n - (intOf i).toNat)
    case atStart => exact ⟨0, Nat.zero_le _, rfl, rfl, 0, rfl⟩
    case round =>
      obtain ⟨k, hk, rfl, htake, hnew⟩ := hrel
      have HT := Lib.hid htake
      obtain ⟨q, hq⟩ := hnew
      have hnew : New w wr := by rw [hq]; exact (Chg.refl _ w).drewN q
      have HQ := Lib.hid hq
      clear htake hq
      by_cases hlt : k < n
      · obtain ⟨ad, u, rfl, hu, hcu⟩ := (ha.new hnew).at_ hlt
        obtain ⟨bd, v, rfl, hv, hcv⟩ := (hb.new hnew).at_ hlt
        obtain ⟨x, hx, rfl⟩ := is_at hu
        obtain ⟨y, hy, rfl⟩ := is_at hv
        have HX := Lib.hid hx
        have HY := Lib.hid hy
        clear hu hv hx hy ha hb
        by_cases hxy : x = y
        · subst hxy
          go_wp2
          go_quiet (fail)
          go_wp2
          go_roundw
          case rel => exact ⟨k + 1, by omega, by go_num, sameI_step HT.out HX.out HY.out rfl, _, by rw [HQ.out, World.drewN_drewN]⟩
          case measure => simp [intOf]; omega
        · have hne : (x != y) = true := by simp [hxy]
          have e : la ≠ lb := fun e => by
            have h1 := HX.out
            rw [e, HY.out] at h1
            injection h1 with h1
            exact hxy h1.symm
          have HE : Hid (decide (la = lb) = false) := by show _ = _; simpa using e
          clear e
          go_wp2
          go_quiet (fail)
          go_wp2
          go_ret
          rw [HE.out]
          exact ⟨rfl, _, by rw [HQ.out, World.drewN_drewN]⟩
      · go_wp2
        go_ret
        have hk' : k = n := by omega
        subst hk'
        have e : la = lb := by
          have := HT.out
          rwa [List.take_of_length_le (by rw [HA.out]; omega), List.take_of_length_le (by rw [HB.out]; omega)] at this
        exact ⟨by simp [e], _, HQ.out⟩
  · have e : la ≠ lb := fun e => h (by rw [← hla, ← hlb, e])
    have hd : decide (la = lb) = false := by simpa using e
    have H := Lib.hid hd
    clear hla hlb hd
    go_enter Try.func36, Try.ntmps36
    go_wp2
    go_ret
    rw [H.out]
    exact ⟨by simp, 0, rfl⟩

/-- What Shuffle returns. -/
noncomputable def shufL (seed : Int) (n : Nat) : List Int := (List.range n).map (fun k => (placeN seed n k : Int))
theorem shufL_length (seed : Int) (n : Nat) : (shufL seed n).length = n := by simp [shufL]
noncomputable def shufTo (seed : Int) (n k : Nat) : List Int := (List.range k).map (fun k => (placeN seed n k : Int)) ++ List.replicate (n - k) 0
theorem shufTo_step (seed : Int) {n k : Nat} (h : k < n) : (shufTo seed n k).set k (placeN seed n k : Int) = shufTo seed n (k + 1) := by
  unfold shufTo
  rw [List.set_append_right _ _ (by simp), List.length_map, List.length_range, Nat.sub_self, List.range_succ, List.map_append, List.append_assoc]
  congr 1
  obtain ⟨m, hm⟩ : ∃ m, n - k = m + 1 := ⟨n - k - 1, by omega⟩
  rw [hm, show n - (k + 1) = m by omega, List.replicate_succ, List.set_cons_zero]
  rfl
theorem shufTo_all (seed : Int) (n : Nat) : shufTo seed n n = shufL seed n := by simp [shufTo, shufL]

set_option maxHeartbeats 1000000 in
theorem shuffle_any (seed : Int) (n : Nat) (h1 : 1 ≤ n) (h2 : n ≤ 1024) (w : World) :
    Calls Try.prog 30 #[.int .u64 seed, .int .i64 n] w fun e w' => ∃ A c, e = .returned (.tuple #[.slice A n c, .int .i64 0]) ∧ w'.ownsRow w.heap.size 3 1 (.slice A n c) n (is (shufL seed n)) ∧ New w w' := by
  have g1 : decide ((n : Int) < 1) = false := by simp; omega
  have g2 : decide ((1024 : Int) < (n : Int)) = false := by simp; omega
  go_enter Try.func30, Try.ntmps30
  go_wp2_with (at_make; refine wpList_mk elemInts rfl rfl _ _ rfl (n := n) rfl rfl rfl rfl (by omega) (by simp only [maxLen]; omega) ?_; intro w1 hown hg hz; have HO := Lib.hid (And.intro hown (And.intro hg hz)); clear hown hg hz)
  go_loopw [18] (fun i wr => ∃ k : Nat, k ≤ n ∧ i = .int .i64 k ∧ Hid (wr.ownsRow w.heap.size 3 1 (.slice (some ⟨w.heap.size, 0, none⟩) n n) n (is (shufTo seed n k)) ∧ New w wr)) (fun i _ => n - (intOf i).toNat)
  case atStart =>
    refine ⟨0, Nat.zero_le _, rfl, ?_, HO.out.2.1⟩
    have := HO.out.1
    rw [show List.replicate n (Value.int .i64 0) = is (shufTo seed n 0) by simp [shufTo, is]] at this
    exact this
  case round =>
    obtain ⟨k, hk, rfl, HR⟩ := hrel
    clear HO
    by_cases hlt : k < n
    · have HB : Hid (boundsI (n : Int) (k : Int) = 0) := boundsI_of (by omega) (by omega) (by omega) (by omega)
      go_wp2_with fail
      refine (place_any seed (n : Int) (k : Int) wr (by omega)).mono ?_
      rw [HB.out, if_pos rfl, Int.toNat_natCast, Int.toNat_natCast]
      rintro e w2 ⟨rfl, hn2⟩
      obtain ⟨ho, hnew⟩ := HR.out
      have ho2 := own_chg ho hn2 (fun _ _ h => h)
      obtain ⟨g, hg, hg1, hg2, hfz⟩ := own_form ho2 (by omega)
      have hgw : w.heap.size = g := by simpa using hg
      have hf := hfz k
      have hlk : k < (shufTo seed n k).length := by unfold shufTo; simp; omega
      have hcell := own_cell ho2 (i := k) (u := .int .i64 ((shufTo seed n k)[k])) (by unfold is; rw [List.getElem?_map, List.getElem?_eq_getElem hlk]; rfl)
      rw [← hgw] at hf
      generalize (shufTo seed n k)[k] = old at hcell
      have H2 := Lib.hid (And.intro ho2 (hnew.new hn2))
      obtain ⟨p, hp⟩ : ∃ p, placeN seed n k = p := ⟨_, rfl⟩
      rw [hp]
      have HP := Lib.hid hp
      have hsz := hg2
      rw [← hgw] at hsz
      clear ho hnew ho2 hg hg1 hg2 hfz hgw hp hn2 HR HB hlk
      go_wp2
      go_roundw
      case rel =>
        obtain ⟨ho2, hn2⟩ := H2.out
        refine ⟨k + 1, by omega, by go_num, ?_, ?_⟩
        · rw [← shufTo_step seed hlt, HP.out]
          have := own_set ho2 k (.int .i64 (p : Int)) hlt
          rw [show is ((shufTo seed n k).set k (p : Int)) = (is (shufTo seed n k)).set k (.int .i64 (p : Int)) by simp [is, List.map_set]]
          exact this
        · exact hn2.setCell (fun h => absurd h (by simp)) _
      case measure => simp [intOf]; omega
    · obtain rfl : n = k := by omega
      go_wp2
      go_ret2
      obtain ⟨ho, hn⟩ := HR.out
      rw [shufTo_all] at ho
      exact ⟨_, _, rfl, ho, hn⟩

set_option maxHeartbeats 1000000 in
theorem shuffle_bad (seed : Int) (n : Int) (h : n < 1 ∨ 1024 < n) (w : World) :
    Calls Try.prog 30 #[.int .u64 seed, .int .i64 n] w fun e w' => e = .returned (.tuple #[.slice none 0 0, .int .i64 1]) ∧ w = w' := by
  by_cases h1 : n < 1
  · clear h
    go_enter Try.func30, Try.ntmps30
    go_wp2
    go_ret2
    exact ⟨rfl, rfl⟩
  · have g1 : decide (n < 1) = false := by simp; omega
    have g2 : 1024 < n := by omega
    clear h
    go_enter Try.func30, Try.ntmps30
    go_wp2
    go_ret2
    exact ⟨rfl, rfl⟩

theorem flatInt : Flat Try.prog 3 := ⟨_, Try.underlying3, rfl⟩
theorem flatErr : Flat Try.prog 32 := ⟨_, Try.underlying32, rfl⟩
set_option maxHeartbeats 1000000 in
theorem parts_one (v : Value) (w : World) (hv : WI w v 1) :
    Calls Try.prog 40 #[v] w fun e w' => ∃ v', e = .returned (.tuple #[.int .i64 0, v', .bool true]) ∧ WI w' v' 1 ∧ New w w' := by
  obtain ⟨s, A, n, c, rfl, hs, hm⟩ := hv
  have H := Lib.hid (And.intro hs hm)
  clear hs hm
  go_enter Try.func40, Try.ntmps40
  go_wp2_with fail
  refine Calls.new2 ?_
  intro W hb1 hb2 hn hz
  refine (from_any 1 W (by omega) (by omega)).mono ?_
  rintro e w1 ⟨v1, rfl, ⟨s1, A1, n1, c1, rfl, hs1, hm1⟩, hn1⟩
  have hb3 := hb1.chg hn1 (fun h => h)
  have hb4 := hb2.chg hn1 (fun h => h)
  have hz1 : w.heap.size + 2 ≤ w1.heap.size := by have := hn1.size; omega
  obtain ⟨W2, hW2⟩ : ∃ W2, w1.alloc (.cells #[.bool s1, .slice A1 n1 c1] 42) = W2 := ⟨_, rfl⟩
  have hb5 : Blk W2 w1.heap.size 42 #[.bool s1, .slice A1 n1 c1] := by rw [← hW2]; exact Blk.new _ _ _
  have hn2 : New w1 W2 := by rw [← hW2]; exact (Chg.refl _ w1).alloc _
  have H1 := Lib.hid (And.intro (hb3.chg hn2 (fun h => h)) (And.intro (hb4.chg hn2 (fun h => h)) (And.intro hb5 (And.intro ((hn.new hn1).new hn2) (And.intro hs1 (hm1.new hn2))))))
  have HW2 := Lib.hid hW2
  clear hb1 hb2 hn hn1 hb3 hb4 hs1 hm1 hz hb5 hn2 hW2
  go_wp2_with fail
  go_loopw [6] (fun i wr => i = .int .i64 0 ∧ wr = W2) (fun i _ => 0)
  case atStart => exact ⟨rfl, HW2.out⟩
  case round =>
    obtain ⟨rfl, hwr⟩ := hrel
    clear HW2
    subst hwr
    obtain ⟨hb3, hb4, hb5, hn, hs1, hm1⟩ := H1.out
    have hc30 := hb3.cell 0 (u := .bool s) rfl
    have hc31 := hb3.cell 1 (u := .slice A n c) rfl
    have hc50 := hb5.cell 0 (u := .bool s1) rfl
    have hc51 := hb5.cell 1 (u := .slice A1 n1 c1) rfl
    clear hb3 hb4 hb5 hn hs1 hm1
    go_wp2_with fail
    obtain ⟨hb3, hb4, hb5, hn, hs1, hm1⟩ := H1.out
    refine (compare_any _ _ 1 1 wr (WI.new ⟨s, A, n, c, rfl, H.out⟩ hn) ⟨s1, A1, n1, c1, rfl, hs1, hm1⟩).mono ?_
    rintro e w3 ⟨rfl, hn3⟩
    rw [show cmpI 1 1 = 0 by decide]
    have hb6 := hb4.chg hn3 (fun h => h)
    have hb7 := hb5.chg hn3 (fun h => h)
    have hc60 := hb6.cell 0 (u := .bool false) rfl
    have hc61 := hb6.cell 1 (u := .slice none 0 0) rfl
    have hf60 := hb6.frozen 0
    have hf61 := hb6.frozen 1
    have hc70 := hb7.cell 0 (u := .bool s1) rfl
    have hc71 := hb7.cell 1 (u := .slice A1 n1 c1) rfl
    have H3 := Lib.hid (And.intro hb6 (And.intro (hn.new hn3) (And.intro hs1 (hm1.new hn3))))
    clear hb3 hb4 hb5 hn hn3 hs1 hm1 hb6 hb7 hc30 hc31 hc50 hc51 H1 H
    go_wp2_with fail
    go_region
    all_goals
      go_wp2
      obtain ⟨hb6, hn, hs1, hm1⟩ := H3.out
      refine bodyPost_ret (res_tct rfl _ rfl rfl (aggInt.load (Blk.drew (hb6.set2 _ _))) rfl) rfl ⟨_, rfl, ⟨s1, A1, n1, c1, rfl, hs1, ?_⟩, ?_⟩
      · exact hm1.store hb6 (noInt_two _ _ _ _) ((Chg.at2 _ _ _ _).drew)
      · exact Chg.owned hn (Chg.at2 _ _ _ _).drew (fun k e => by omega)

set_option maxHeartbeats 1000000 in
theorem big_one (seed : Int) (lab : ByteArray) (i : Int) (v : Value) (w : World) (hv : WI w v 1) :
    Calls Try.prog 23 #[.int .u64 seed, .string lab, .int .i64 i, v] w fun e w' => e = .returned (.tuple #[.agg #[.bool false, .slice none 0 0], .int .i64 i, .int .i64 0]) ∧ New w w' := by
  obtain ⟨s, A, n, c, rfl, hs, hm⟩ := hv
  have H := Lib.hid (And.intro hs hm)
  clear hs hm
  go_enter Try.func23, Try.ntmps23
  go_wp2_with fail
  refine Calls.new4 ?_
  intro W hb1 hb2 hb3 hb4 hn hz
  have hwi : WI W (.agg #[.bool s, .slice A n c]) 1 := WI.new ⟨s, A, n, c, rfl, H.out⟩ hn
  refine (sign_any _ 1 W hwi).mono ?_
  rintro e w1 ⟨rfl, hn1⟩
  rw [show cmpI 1 0 = 1 by decide]
  have hc := hb1.chg hn1 (fun h => h)
  have hc0 := hc.cell 0 rfl
  have hc1 := hc.cell 1 rfl
  have H1 := Lib.hid (And.intro hb2 (And.intro hb3 (And.intro hb4 (And.intro hn (And.intro hn1 (hwi.new hn1))))))
  have hz1 : w.heap.size + 4 ≤ w1.heap.size := by have := hn1.size; omega
  clear hb1 hb2 hb3 hb4 hn hn1 hwi hc hz H
  go_wp2_with fail
  refine (parts_one _ w1 H1.out.2.2.2.2.2).mono ?_
  rintro e w2 ⟨v2, rfl, ⟨s2, A2, n2, c2, rfl, hs2, hm2⟩, hn2⟩
  obtain ⟨hb2, hb3, hb4, hn, hn1, _⟩ := H1.out
  have hd2 := (hb2.chg hn1 (fun h => h)).chg hn2 (fun h => h)
  have hd3 := (hb3.chg hn1 (fun h => h)).chg hn2 (fun h => h)
  have hd4 := (hb4.chg hn1 (fun h => h)).chg hn2 (fun h => h)
  have hcA := hd2.cell 0 (u := .bool false) rfl
  have hcB := hd2.cell 1 (u := .slice none 0 0) rfl
  have hcC := hd3.cell 0 (u := .int .i64 0) rfl
  have hcD := hd4.cell 0 (u := .int .i64 0) rfl
  have hl0 : w.heap.size < w2.heap.size := by have := hd2.lt; omega
  have hlA := hd2.lt
  have hlC := hd3.lt
  have hlD := hd4.lt
  have hfA := hd2.frozen 0
  have hfB := hd2.frozen 1
  have hfC := hd3.frozen 0
  have hfD := hd4.frozen 0
  have hz2 : w.heap.size + 4 ≤ w2.heap.size := by have := hn2.size; omega
  have H2 := Lib.hid (And.intro hd2 (And.intro hd3 (And.intro hd4 ((hn.new hn1).new hn2))))
  clear hb2 hb3 hb4 hn hn1 hs2 hm2 hn2 hd2 hd3 hd4 H1 hc0 hc1 hz1
  go_wp2_with fail
  obtain ⟨hd2, hd3, hd4, hn⟩ := H2.out
  have k2 := ((((hd2.set2 (.bool false) (.slice none 0 0)).far (p := ⟨w.heap.size + 1 + 1, 0, none⟩) (by dsimp only; omega) (.int .i64 i)).far (p := ⟨w.heap.size + 1 + 1 + 1, 0, none⟩) (by dsimp only; omega) (.int .i64 0)).alloc (.cells #[.int .i64 0] 3)).alloc (.cells #[.bool s2, .slice A2 n2 c2] 42)
  have k3 := (((((hd3.far (p := ⟨w.heap.size + 1, 0, none⟩) (by dsimp only; omega) (.bool false)).far (p := ⟨w.heap.size + 1, 1, none⟩) (by dsimp only; omega) (.slice none 0 0)).set1 (.int .i64 i)).far (p := ⟨w.heap.size + 1 + 1 + 1, 0, none⟩) (by dsimp only; omega) (.int .i64 0)).alloc (.cells #[.int .i64 0] 3)).alloc (.cells #[.bool s2, .slice A2 n2 c2] 42)
  have k4 := (((((hd4.far (p := ⟨w.heap.size + 1, 0, none⟩) (by dsimp only; omega) (.bool false)).far (p := ⟨w.heap.size + 1, 1, none⟩) (by dsimp only; omega) (.slice none 0 0)).far (p := ⟨w.heap.size + 1 + 1, 0, none⟩) (by dsimp only; omega) (.int .i64 i)).set1 (.int .i64 0)).alloc (.cells #[.int .i64 0] 3)).alloc (.cells #[.bool s2, .slice A2 n2 c2] 42)
  refine bodyPost_ret (res_ccc rfl _ rfl (aggInt.load k2) rfl (flatInt.load k3) rfl (flatErr.load k4)) rfl ⟨rfl, ?_⟩
  exact (((((hn.setCell (fun h => absurd h (by simp)) _).setCell (fun h => absurd h (by simp)) _).setCell (fun h => absurd h (by simp; omega)) _).setCell (fun h => absurd h (by simp; omega)) _).alloc _).alloc _

theorem below_one (seed : Int) (s : ByteArray) (hs : s.size ≤ 1000000) (i : Int) (hi : 0 ≤ i ∧ i ≤ 1000000000) (w : World) :
    Calls Try.prog 11 #[.int .u64 seed, .string s, .int .i64 i, .int .i64 1] w fun e w' => e = .returned (.tuple #[.int .i64 0, .int .i64 (i + 1)]) ∧ New w w' := by
  refine (below_any seed s hs i hi 1 (by omega) (by omega) w).mono ?_
  rintro e w1 ⟨rfl, hn⟩
  have ht : takenN seed s.data.toList i 1 = 0 := taken_eq (by omega) (fun j hj => by omega) (.inl (.inl (by unfold overN; omega)))
  rw [ht]
  refine ⟨?_, hn⟩
  rw [show ((1 : Nat) : Int) = 1 from rfl, Int.emod_one, show i + ((0 : Nat) : Int) + 1 = i + 1 by omega]
theorem pick3 (seed : Int) (lab : List UInt8) (i : Int) : ∃ q, pickR seed lab i [0, 3, 0] = (1, q, 0) := by
  have hg : goodW [0, 3, 0] := by intro w hw; simp at hw; omega
  have hb : ¬ pickBad [0, 3, 0] := by
    intro h
    rcases h with h | h | h | h
    · simp at h
    · simp at h
    · exact h hg
    · simp at h
  obtain ⟨r, hr⟩ : ∃ r, wordI seed lab (i + (takenN seed lab i 3 : Nat)) % ((3 : Nat) : Int) = r := ⟨_, rfl⟩
  have h0 : 0 ≤ r := by rw [← hr]; exact Int.emod_nonneg _ (by omega)
  have h3 : r < 3 := by rw [← hr]; exact Int.emod_lt_of_pos _ (by omega)
  have hk : seek [0, 3, 0] r 0 = some 1 := by
    rw [seek, if_neg (by omega), seek, if_pos (by omega)]
  exact ⟨_, pickR_ok hb (S := 3) (by simp) rfl hr hk⟩
theorem shuf1 (seed : Int) : shufL seed 1 = [0] := by
  have := place_lt seed (n := 1) (k := 0) (by omega) (by omega)
  unfold shufL
  simp
  omega

set_option maxRecDepth 100000 in
set_option maxHeartbeats 2000000 in
theorem lives_any (w : World) : Calls Try.prog 13 #[] w fun e w' => e = .returned (.bool true) ∧ New w w' := by
  go_enter Try.func13, Try.ntmps13
  go_wp2_with fail
  refine (below_one 1 ⟨#[120]⟩ (by decide) 5 (by omega) w).mono ?_
  rintro e w1 ⟨rfl, hn1⟩
  rw [show (5 : Int) + 1 = 6 by decide]
  have H1 := Lib.hid hn1
  clear hn1
  go_wp2_with fail
  refine (from_any 1 w1 (by omega) (by omega)).mono ?_
  rintro e w2 ⟨v2, rfl, ⟨s2, A2, n2, c2, rfl, hs2, hm2⟩, hn2⟩
  have H2 := Lib.hid (And.intro hs2 (And.intro hm2 (H1.out.new hn2)))
  clear hs2 hm2 hn2 H1
  go_wp2_with fail
  refine (big_one 1 ⟨#[120]⟩ 5 _ w2 ⟨s2, A2, n2, c2, rfl, H2.out.1, H2.out.2.1⟩).mono ?_
  rintro e w3 ⟨rfl, hn3⟩
  have H3 := Lib.hid (H2.out.2.2.new hn3)
  clear hn3 H2
  go_wp2_with fail
  refine Calls.new2 ?_
  intro W4 hb1 hb2 hn4 hz4
  obtain ⟨q, hq⟩ := pick3 1 (ByteArray.mk #[120]).data.toList 5
  have hr4 : Rd W4 (some ⟨w3.heap.size + 1, 0, none⟩) 3 (is [0, 3, 0]) := ⟨rfl, fun _ => ⟨_, rfl, fun j u hu => by rw [Addr.add_lit, Nat.zero_add]; exact hb2.cell j (by simpa [is] using hu)⟩⟩
  refine (pick_any 1 ⟨#[120]⟩ (by decide) 5 (by omega) _ 3 3 [0, 3, 0] W4 hr4 (by omega)).mono ?_
  rw [hq]
  rintro e w5 ⟨rfl, hn5⟩
  have hb6 := hb1.chg hn5 (fun h => h)
  have H5 := Lib.hid (And.intro hb6 (H3.out.new (hn4.new hn5)))
  clear hb1 hb2 hn4 hz4 hq hr4 hn5 hb6 H3
  go_wp2_with fail
  refine (shuffle_any 9 1 (by omega) (by omega) w5).mono ?_
  rintro e w6 ⟨A6, c6, rfl, ho6, hn6⟩
  rw [shuf1] at ho6
  obtain ⟨hb5, hn5⟩ := H5.out
  have hb6 := hb5.chg hn6 (fun h => h)
  have hc0 := hb6.cell 0 (u := .bool false) rfl
  have hc1 := hb6.cell 1 (u := .slice none 0 0) rfl
  have H6 := Lib.hid (And.intro (hn5.new hn6) ho6)
  clear hb5 hn5 hn6 ho6 H5 hb6
  go_wp2_with fail
  refine (sign_any _ 0 w6 (WI.zero _)).mono ?_
  rintro e w7 ⟨rfl, hn7⟩
  rw [show cmpI 0 0 = 0 by decide]
  have H7 := Lib.hid (And.intro (H6.out.1.new hn7) (own_chg H6.out.2 hn7 (fun _ _ h => h)))
  clear hn7 H6 hc0 hc1
  go_wp2_with fail
  have hr8 : Rd (w7.alloc (.cells #[.int .i64 0] 3)) (some ⟨w7.heap.size, 0, none⟩) 1 (is [0]) := Rd.lit (is [0]) rfl
  refine (sameInts_any A6 _ 1 1 c6 1 [0] [0] _ ((Rd.of_own H7.out.2).new ((Chg.refl _ _).alloc _)) hr8 (by omega) (by omega)).mono ?_
  rintro e w8 ⟨rfl, q8, hq8⟩
  rw [show decide (([0] : List Int) = [0]) = true by simp]
  have H8 := Lib.hid (show New w w8 by rw [hq8]; exact (H7.out.1.alloc _).drewN q8)
  clear hr8 hq8
  go_wp2
  go_ret
  exact ⟨rfl, H8.out⟩
end Go.Proofs.Ytcjbndlhomokpaa
