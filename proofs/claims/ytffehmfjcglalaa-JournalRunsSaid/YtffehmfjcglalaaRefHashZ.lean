/- Contracts of refuterref01: Words, mix, Sum, Bytes. -/
import Derived.Test.YtffehmfjcglalaaBase
import Derived.Test.YtffehmfjcglalaaMemIn
import Derived.Test.YtffehmfjcglalaaG0
set_option linter.unusedSimpArgs false
set_option linter.unusedVariables false
namespace Go.Proofs.Ytffehmfjcglalaa
set_option linter.unusedVariables false
open Go.RowKit Go.Mem Go.Pure

theorem elemWords : Elem Try.prog 105 76 (.int .u64 0) 8 := Elem.mk' Try.underlying105 (by kernel_rfl) rfl
/-- The cells of words. -/
def us (l : List Nat) : List Value := l.map (fun n : Nat => Value.int .u64 n)
theorem us_length (l : List Nat) : (us l).length = l.length := by simp [us]
theorem us_append (a b : List Nat) : us (a ++ b) = us a ++ us b := by simp [us]
theorem us_at {l : List Nat} {k : Nat} {u : Value} (h : (us l)[k]? = some u) : ∃ z, l[k]? = some z ∧ u = .int .u64 (z : Nat) := by
  simp only [us, List.getElem?_map, Option.map_eq_some_iff] at h
  obtain ⟨c, h1, h2⟩ := h
  exact ⟨c, h1, h2.symm⟩

theorem quo32 (z : Int) : IntKind.u64.wrap ((IntKind.u64.wrap z).tdiv 4294967296) = IntKind.u64.wrap z / 4294967296 := by
  rw [IntKind.wrap_u64, IntKind.wrap_u64, Int.tdiv_eq_ediv_of_nonneg (by omega)]
  omega

set_option maxHeartbeats 400000 in
theorem rmix_any (a b : Int) (w : World) :
    Calls Try.prog 93 #[.int .u64 a, .int .u64 b] w fun e w' => e = .returned (.int .u64 (mixI a b)) ∧ w = w' := by
  go_enter Try.func93, Try.ntmps93
  go_wp2
  go_ret
  refine ⟨ret_int ?_, rfl⟩
  unfold mixI
  rw [quo32]

theorem word_add {b : List UInt8} {p m : Nat} {x : UInt8} (hx : b[p]? = some x) (hm : m ≤ 7) :
    (256 : Int) * (word ((b.drop (p + 1)).take m) : Int) + (x.toNat : Int) = ((word ((b.drop p).take (m + 1)) : Nat) : Int) := by
  rw [word_step hx]
  omega

set_option maxHeartbeats 2000000 in
set_option maxRecDepth 100000 in
theorem words_any (A : Option Addr) (len cap : Nat) (b : List UInt8) (w : World) (hr : Rd w A len (bs b)) (hlen : len ≤ 1000000000) :
    Calls Try.prog 71 #[.slice A len cap] w fun e w' => ∃ A' n c, e = .returned (.slice A' n c) ∧ w'.ownsRow w.heap.size 76 1 (.slice A' n c) n (us (wds b)) ∧ New w w' := by
  have hbl : b.length = len := by simpa using hr.len
  have HBL := Lib.hid hbl
  clear hbl
  go_enter Try.func71, Try.ntmps71
  go_wp2
  go_loopw [3, 4] (fun v i wr => ∃ k : Nat, 8 * k ≤ len + 7 ∧ i = .int .i64 (8 * (k : Int)) ∧ ∃ A1 c1, v = .slice A1 k c1 ∧ wr.ownsRow w.heap.size 76 1 (.slice A1 k c1) k (us (wdsTo b k)) ∧ New w wr)
    (fun _ i _ => len + 8 - (intOf i).toNat)
  case atStart => exact ⟨0, by omega, rfl, none, 0, rfl, World.ownsRow_nil _ _ _ _, Chg.refl _ w⟩
  case round =>
    obtain ⟨k, hk, rfl, A1, c1, rfl, ho, hnew⟩ := hrel
    have HO := Lib.hid ho
    have HNW := Lib.hid hnew
    clear ho hnew
    by_cases hlt : 8 * k < len
    · obtain ⟨cnt, hc1, hc8, hcl, hc9⟩ : ∃ cnt : Nat, 1 ≤ cnt ∧ cnt ≤ 8 ∧ 8 * k + cnt ≤ len ∧ (cnt = 8 ∨ 8 * k + cnt = len) := by
        rcases Nat.lt_or_ge (8 * k + 8) len with h | h
        · exact ⟨8, by omega, by omega, by omega, .inl rfl⟩
        · exact ⟨len - 8 * k, by omega, by omega, by omega, .inr (by omega)⟩
      have HC9 := Lib.hid hc9
      clear hc9
      have hmin := fun ts t W => run_min2 (P := Try.prog) (8 * (k : Int) + 8) (len : Int) (8 * (k : Int) + (cnt : Int)) (by have := HC9.out; omega) ts t W
      have HR := Lib.hid hr
      clear hr
      go_wp2
      go_loop [5, 6] (fun v i => ∃ j : Nat, j ≤ cnt ∧ i = .int .i64 (8 * (k : Int) + (j : Int) - 1) ∧ v = .int .u64 (word ((b.drop (8 * k + j)).take (cnt - j))))
        (fun _ i => (intOf i - 8 * (k : Int) + 1).toNat)
      case atStart => exact ⟨cnt, Nat.le_refl _, rfl, by simp [word]⟩
      case round =>
        obtain ⟨j, hj, rfl, rfl⟩ := hrel
        rcases Nat.eq_zero_or_pos j with h0' | h0'
        · subst h0'
          have hwd := Lib.hid (wd_of_cnt (b := b) (k := k) HBL.out HC9.out hc8)
          go_wp2_with (at_builtin; refine wpList_app elemWords rfl _ _ rfl rfl (HO.out.alloc _) rfl Rd.one (by simp [Value.oneCell']) (by simp only [maxLen]; omega) (by omega) (by have := HNW.out.size; simp; omega) ?_; intro A' c' w1 hown1 hg1 hat1; have HO1 := Lib.hid hown1; clear hown1)
          go_roundw
          case rel =>
            refine ⟨k + 1, by omega, by go_num, A', c', rfl, ?_, ?_⟩
            · have := HO1.out
              rw [hwd.out] at this
              rw [wdsTo_succ, us_append]
              exact this
            · exact (HNW.out.alloc _).grown hg1 (fun j hj hlt' => by have := own_blk_le HO.out hj; omega)
          case measure => simp [intOf]; omega
        · obtain ⟨j, rfl⟩ : ∃ j', j = j' + 1 := ⟨j - 1, by omega⟩
          obtain ⟨ad, u, rfl, hu, hcu⟩ := (HR.out.new HNW.out).at_ (k := 8 * k + j) (by omega)
          obtain ⟨x, hx, rfl⟩ := bs_at hu
          have hx2 := x.toNat_lt
          have hw7 := word_lt7 (l := (b.drop (8 * k + (j + 1))).take (cnt - (j + 1))) (by simp; omega)
          have hst := Lib.hid (word_add (m := cnt - (j + 1)) hx (by omega))
          clear hu hx hmin
          go_wp2
          go_round
          case rel => exact ⟨j, by omega, by go_num, by have := hst.out; rw [show 8 * k + (j + 1) = 8 * k + j + 1 from rfl, this, show cnt - (j + 1) + 1 = cnt - j by omega]⟩
          case measure => simp [intOf]; omega
    · have hk' : k = nw b := by unfold nw; rw [HBL.out]; omega
      have HK' := Lib.hid hk'
      clear hk'
      go_wp2
      go_ret
      refine ⟨A1, k, c1, rfl, ?_, HNW.out⟩
      have := HO.out
      rw [HK'.out] at this ⊢
      exact this

set_option maxHeartbeats 2000000 in
set_option maxRecDepth 100000 in
theorem rsum_any (s : ByteArray) (hs : s.size ≤ 1000000) (A : Option Addr) (n c : Nat) (l : List Int) (w : World) (hr : Rd w A n (is l)) (hn : n ≤ 1000000000) :
    Calls Try.prog 72 #[.string s, .slice A n c] w fun e w' => e = .returned (.int .u64 (sumI s.data.toList l)) ∧ New w w' := by
  have hll : l.length = n := by have := hr.len; rwa [is_length] at this
  have HLL := Lib.hid hll
  clear hll
  have hcv := fun W => Lib.run_convert_string_bytes (P := Try.prog) W 9 33 5 s Try.underlying9 Try.underlying33 Try.underlying5
  go_enter Try.func72, Try.ntmps72
  go_wp2_with fail
  refine (words_any _ _ _ s.data.toList _ (conv_rd w 5 s) (by omega)).mono ?_
  rintro e w1 ⟨A1, n1, c1, rfl, ho1, hn1⟩
  have hn1' : New w w1 := (conv_new w _ s).new hn1
  have hwl : n1 = nw s.data.toList := by have := ho1.1; rw [us_length, wds_length] at this; omega
  have hn1l : n1 ≤ 1000000 := by rw [hwl]; unfold nw; simp; omega
  have HWL := Lib.hid hwl
  have HO1 := Lib.hid (Rd.of_own ho1)
  have HN1 := Lib.hid hn1'
  clear hcv ho1 hn1 hn1' hwl
  go_wp2_with fail
  go_loop [5, 7] (fun v i => ∃ k : Nat, k ≤ n1 ∧ i = .int .i64 k ∧ v = .int .u64 (absorb 0 ((wdsTo s.data.toList k).map (fun n : Nat => (n : Int))))) (fun _ i => n1 - (intOf i).toNat)
  case atStart => exact ⟨0, Nat.zero_le _, rfl, rfl⟩
  case round =>
    obtain ⟨k, hk, rfl, rfl⟩ := hrel
    by_cases hlt : k < n1
    · obtain ⟨ad, u, rfl, hu, hcu⟩ := HO1.out.at_ hlt
      obtain ⟨z, hz, rfl⟩ := us_at hu
      have hzw : z = wd s.data.toList k := by
        have h2 : k < nw s.data.toList := by rw [← HWL.out]; exact hlt
        simp [wds, h2] at hz
        exact hz.symm
      have HZ := Lib.hid hzw
      clear hu hz hzw
      go_wp2_with (go_at_call 93; refine (rmix_any _ _ _).mono ?_; rintro e w' ⟨rfl, rfl⟩)
      go_round
      case rel =>
        refine ⟨k + 1, by omega, by go_num, ?_⟩
        rw [wdsTo_succ, List.map_append, List.map_cons, List.map_nil, absorb_snoc, ← HZ.out]
      case measure => simp [intOf]; omega
    · obtain rfl : n1 = k := by omega
      obtain ⟨s0, hs0⟩ : ∃ s0, absorb 0 ((wdsTo s.data.toList n1).map (fun n : Nat => (n : Int))) = s0 := ⟨_, rfl⟩
      have HS0 := Lib.hid hs0
      rw [hs0]
      clear hs0
      have hrw := hr.new HN1.out
      have HR := Lib.hid hrw
      clear hr hrw
      go_wp2_with (go_at_call 93; refine (rmix_any _ _ _).mono ?_; rintro e w' ⟨rfl, rfl⟩)
      go_loop [5, 8] (fun v i => ∃ k : Nat, k ≤ n ∧ i = .int .i64 k ∧ v = .int .u64 (absTo (mixI (mixI s0 s.size) n) l k)) (fun _ i => n - (intOf i).toNat)
      case atStart => exact ⟨0, Nat.zero_le _, rfl, rfl⟩
      case round =>
        obtain ⟨k, hk, rfl, rfl⟩ := hrel
        by_cases hlt : k < n
        · obtain ⟨ad, u, rfl, hu, hcu⟩ := HR.out.at_ hlt
          obtain ⟨z, hz, rfl⟩ := is_at hu
          have HZ := Lib.hid hz
          clear hu hz
          go_wp2_with (go_at_call 93; refine (rmix_any _ _ _).mono ?_; rintro e w' ⟨rfl, rfl⟩)
          go_round
          case rel => exact ⟨k + 1, by omega, by go_num, by rw [absTo_succ HZ.out]⟩
          case measure => simp [intOf]; omega
        · obtain rfl : n = k := by omega
          go_wp2_with (go_at_call 93; refine (rmix_any _ _ _).mono ?_; rintro e w' ⟨rfl, rfl⟩)
          go_ret
          refine ⟨ret_int ?_, HN1.out⟩
          have := HLL.out
          subst this
          rw [absTo_all, ← HS0.out, HWL.out]
          unfold sumI
          rw [Array.length_toList]
          rfl

/-- What the words of the bytes, as ints, are. -/
def iwR (pre : List Nat) : List Int := pre.map (fun n : Nat => wrap64 (n : Int))
theorem iwR_snoc (pre : List Nat) (x : Nat) : iwR (pre ++ [x]) = iwR pre ++ [wrap64 (x : Int)] := by simp [iwR]

set_option maxHeartbeats 2000000 in
set_option maxRecDepth 100000 in
theorem rbytes_any (s : ByteArray) (hs : s.size ≤ 1000000) (A : Option Addr) (n c : Nat) (l : List UInt8) (w : World) (hr : Rd w A n (bs l)) (hn : n ≤ 1000000000) :
    Calls Try.prog 60 #[.string s, .slice A n c] w fun e w' => e = .returned (.int .u64 (bytesI s.data.toList l)) ∧ New w w' := by
  have hll : l.length = n := by have := hr.len; rwa [bs_length] at this
  have HLL := Lib.hid hll
  clear hll
  go_enter Try.func60, Try.ntmps60
  go_wp2_with fail
  refine (words_any _ _ _ l _ hr (by omega)).mono ?_
  rintro e w1 ⟨A1, n1, c1, rfl, ho1, hn1⟩
  have hwl : n1 = nw l := by have := ho1.1; rw [us_length, wds_length] at this; omega
  have hn1l : n1 ≤ 125000001 := by rw [hwl]; unfold nw; rw [HLL.out]; omega
  have HWL := Lib.hid hwl
  have HO1 := Lib.hid (Rd.of_own ho1)
  have HN1 := Lib.hid hn1
  clear ho1 hn1 hwl hr
  go_wp2_with fail
  go_loopw [6, 7] (fun v i wr => ∃ k : Nat, k ≤ n1 ∧ i = .int .i64 k ∧ ∃ A2 c2, v = .slice A2 k c2 ∧ wr.ownsRow w1.heap.size 3 1 (.slice A2 k c2) k (is (iwR (wdsTo l k))) ∧ New w1 wr) (fun _ i _ => n1 - (intOf i).toNat)
  case atStart => exact ⟨0, Nat.zero_le _, rfl, none, 0, rfl, World.ownsRow_nil _ _ _ _, Chg.refl _ _⟩
  case round =>
    obtain ⟨k, hk, rfl, A2, c2, rfl, ho, hnew⟩ := hrel
    have HO := Lib.hid ho
    have HNW := Lib.hid hnew
    clear ho hnew
    by_cases hlt : k < n1
    · obtain ⟨ad, u, rfl, hu, hcu⟩ := (HO1.out.new HNW.out).at_ hlt
      obtain ⟨z, hz, rfl⟩ := us_at hu
      have hzw : z = wd l k := by
        have h2 : k < nw l := by rw [← HWL.out]; exact hlt
        simp [wds, h2] at hz
        exact hz.symm
      have HZ := Lib.hid hzw
      clear hu hz hzw
      go_wp2_with (at_builtin; refine wpList_app elemInts rfl _ _ rfl rfl (HO.out.alloc _) rfl Rd.one (by simp [Value.oneCell']) (by simp only [maxLen]; omega) (by omega) (by have := HNW.out.size; simp; omega) ?_; intro A' c' w2 hown2 hg2 hat2; have HO2 := Lib.hid hown2; clear hown2)
      go_roundw
      case rel =>
        refine ⟨k + 1, by omega, by go_num, A', c', rfl, ?_, ?_⟩
        · have := HO2.out
          rw [wdsTo_succ, iwR_snoc, is_append, ← HZ.out]
          exact this
        · exact (HNW.out.alloc _).grown hg2 (fun j hj hlt' => by have := own_blk_le HO.out hj; omega)
      case measure => simp [intOf]; omega
    · obtain rfl : n1 = k := by omega
      go_wp2_with (at_builtin; refine wpList_app elemInts rfl _ _ rfl rfl (HO.out.alloc _) rfl Rd.one (by simp [Value.oneCell']) (by simp only [maxLen]; omega) (by omega) (by have := HNW.out.size; simp; omega) ?_; intro A' c' w2 hown2 hg2 hat2; have HO2 := Lib.hid hown2; clear hown2)
      have hn2 : New w w2 := HN1.out.new ((HNW.out.alloc _).grown hg2 (fun j hj hlt' => by have := own_blk_le HO.out hj; omega))
      have HN2 := Lib.hid hn2
      clear hn2
      have hr2 : Rd w2 A' (n1 + 1) (is (iwR (wdsTo l n1) ++ [(n : Int)])) := by
        have := Rd.of_own HO2.out
        rwa [is_append]
      refine (rsum_any s hs A' (n1 + 1) c' _ w2 hr2 (by omega)).mono ?_
      rintro e w3 ⟨rfl, hn3⟩
      go_wp2
      go_ret
      refine ⟨ret_int ?_, HN2.out.new hn3⟩
      unfold bytesI
      rw [HLL.out, HWL.out]
      rfl

end Go.Proofs.Ytffehmfjcglalaa
