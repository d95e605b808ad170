/- Contracts of refuterref02: Uint, Zigzag, Int, Raw; of refuterref07: Core, Frame. -/
import Derived.Test.YtffehmfjcglalaaRefHashZ
import Derived.Test.YtffehmfjcglalaaG0
set_option linter.unusedSimpArgs false
set_option linter.unusedVariables false
namespace Go.Proofs.Ytffehmfjcglalaa
open Go.RowKit Go.Mem Go.Pure

set_option maxHeartbeats 1000000 in
set_option maxRecDepth 100000 in
theorem refUint_any (n : Nat) (w : World) (hn : n < 18446744073709551616) :
    Calls Try.prog 59 #[.int .u64 n] w fun e w' => ∃ A m c, e = .returned (.slice A m c) ∧ w'.ownsRow w.heap.size 5 1 (.slice A m c) m (bs (uvar n)) ∧ New w w' := by
  have hu := uvar_len hn
  have HN := Lib.hid hn
  clear hn
  go_enter Try.func59, Try.ntmps59
  go_wp2
  go_loopw [0, 3] (fun i v wr => ∃ m : Nat, m ≤ n ∧ i = .int .u64 m ∧ ∃ (d : List UInt8) (A : Option Addr) (N c : Nat), uvar n = d ++ uvar m ∧ v = .slice A N c ∧ wr.ownsRow w.heap.size 5 1 (.slice A N c) N (bs d) ∧ New w wr) (fun i _ _ => (intOf i).toNat)
  case atStart => exact ⟨n, Nat.le_refl _, rfl, [], none, 0, 0, rfl, rfl, World.ownsRow_nil _ _ _ _, Chg.refl _ w⟩
  case round =>
    obtain ⟨m, hm, rfl, d, A, N, c, hd, rfl, ho, hnew⟩ := hrel
    have hmb : m < 18446744073709551616 := Nat.lt_of_le_of_lt hm HN.out
    have hNl : N = d.length := by have := ho.1; simpa using this.symm
    have hdl : N + 1 ≤ 10 := by
      have := uvar_pos m
      rw [hd, List.length_append] at hu
      omega
    have HD := Lib.hid hd
    have HO := Lib.hid ho
    have HNW := Lib.hid hnew
    clear hd ho hnew hNl
    by_cases hlt : 128 ≤ m
    · go_wp2_with (at_builtin; refine wpList_app elemBytes rfl _ _ rfl rfl (HO.out.alloc _) rfl Rd.one (by simp [Value.oneCell']) (by simp only [maxLen]; omega) (by omega) (by have := HNW.out.size; simp; omega) ?_; intro A' c' w1 hown1 hg1 hat1; have HO1 := Lib.hid hown1; clear hown1)
      go_roundw
      case rel =>
        refine ⟨m / 128, by omega, by go_num, d ++ [UInt8.ofNat (128 + m % 128)], A', N + 1, c', by rw [HD.out, uvar_ge hlt]; simp, rfl, ?_, ?_⟩
        · have := HO1.out
          rw [bs_append]
          rw [show (128 + (m : Int) % 128) = ((UInt8.ofNat (128 + m % 128)).toNat : Int) by simp; omega] at this
          exact this
        · exact (HNW.out.alloc _).grown hg1 (fun j hj hlt' => by have := own_blk_le HO.out hj; omega)
      case measure => simp [intOf]; omega
    · go_wp2_with (at_builtin; refine wpList_app elemBytes rfl _ _ rfl rfl (HO.out.alloc _) rfl Rd.one (by simp [Value.oneCell']) (by simp only [maxLen]; omega) (by omega) (by have := HNW.out.size; simp; omega) ?_; intro A' c' w1 hown1 hg1 hat1; have HO1 := Lib.hid hown1; clear hown1)
      go_ret
      refine ⟨A', N + 1, c', rfl, ?_, (HNW.out.alloc _).grown hg1 (fun j hj hlt' => by have := own_blk_le HO.out hj; omega)⟩
      have := HO1.out
      rw [ofNat_byte (show m < 128 by omega)] at this
      rw [HD.out, uvar_lt (by omega), bs_append]
      exact this

set_option maxHeartbeats 1000000 in
theorem refZig_any (n : Int) (w : World) (hlo : -9223372036854775808 ≤ n) (hhi : n ≤ 9223372036854775807) :
    Calls Try.prog 92 #[.int .i64 n] w fun e w' => e = .returned (.int .u64 (zig n)) ∧ w = w' := by
  by_cases h : n < 0
  · go_enter Try.func92, Try.ntmps92
    go_wp2
    go_ret
    refine ⟨ret_int ?_, rfl⟩
    unfold zig
    rw [if_pos h]
    omega
  · go_enter Try.func92, Try.ntmps92
    go_wp2
    go_ret
    refine ⟨ret_int ?_, rfl⟩
    unfold zig
    rw [if_neg (by omega)]
    omega

set_option maxHeartbeats 1000000 in
theorem refInt_any (n : Int) (w : World) (hlo : -9223372036854775808 ≤ n) (hhi : n ≤ 9223372036854775807) :
    Calls Try.prog 70 #[.int .i64 n] w fun e w' => ∃ A m c, e = .returned (.slice A m c) ∧ w'.ownsRow w.heap.size 5 1 (.slice A m c) m (bs (uvar (zig n))) ∧ New w w' := by
  go_enter Try.func70, Try.ntmps70
  go_wp2_with fail
  refine (refZig_any n w hlo hhi).mono ?_
  rintro e w1 ⟨rfl, rfl⟩
  go_wp2_with fail
  refine (refUint_any (zig n) w (zig_lt n hlo hhi)).mono ?_
  rintro e w1 ⟨A, m, c, rfl, ho, hn⟩
  have HO := Lib.hid ho
  clear ho
  go_wp2
  go_ret
  exact ⟨A, m, c, rfl, HO.out, hn⟩

set_option maxHeartbeats 1000000 in
set_option maxRecDepth 100000 in
theorem refRaw_any (A : Option Addr) (n c : Nat) (b : List UInt8) (w : World) (hr : Rd w A n (bs b)) (hn : n ≤ 1000000000) :
    Calls Try.prog 58 #[.slice A n c] w fun e w' => ∃ A m c, e = .returned (.slice A m c) ∧ w'.ownsRow w.heap.size 5 1 (.slice A m c) m (bs (rawP b)) ∧ New w w' := by
  have hbl : b.length = n := by have := hr.len; rwa [bs_length] at this
  have HBL := Lib.hid hbl
  clear hbl
  go_enter Try.func58, Try.ntmps58
  go_wp2_with fail
  refine (refUint_any n w (by omega)).mono ?_
  rintro e w1 ⟨A1, m1, c1, rfl, ho1, hn1⟩
  have hr1 := hr.new hn1
  have hml : m1 ≤ 10 := by
    have h1 := ho1.1
    have h2 := uvar_len (n := n) (by omega)
    simp at h1
    omega
  have HO1 := Lib.hid ho1
  have HN1 := Lib.hid hn1
  have HR1 := Lib.hid hr1
  clear ho1 hn1 hr1 hr
  go_wp2_with (at_builtin; refine wpList_app elemBytes rfl _ _ rfl rfl HO1.out rfl HR1.out (bs_one _) (by simp only [maxLen]; omega) (by omega) HN1.out.size ?_; intro A' c' w2 hown2 hg2 hat2; have HO2 := Lib.hid hown2; clear hown2)
  go_ret
  refine ⟨A', m1 + n, c', rfl, ?_, HN1.out.grown hg2 (fun j hj hlt' => by have := own_blk_le HO1.out hj; omega)⟩
  have := HO2.out
  unfold rawP
  rw [HBL.out, bs_append]
  exact this

set_option maxHeartbeats 1000000 in
set_option maxRecDepth 100000 in
theorem refCore_any (num : Int) (A : Option Addr) (n c : Nat) (b : List UInt8) (w : World) (hlo : -9223372036854775808 ≤ num) (hhi : num ≤ 9223372036854775807) (hr : Rd w A n (bs b)) (hn : n ≤ 100000000) :
    Calls Try.prog 57 #[.int .i64 num, .slice A n c] w fun e w' => ∃ A m c, e = .returned (.slice A m c) ∧ w'.ownsRow w.heap.size 5 1 (.slice A m c) m (bs (coreP num b)) ∧ New w w' := by
  have hbl : b.length = n := by have := hr.len; rwa [bs_length] at this
  have HBL := Lib.hid hbl
  clear hbl
  go_enter Try.func57, Try.ntmps57
  go_wp2_with fail
  refine (refInt_any num w hlo hhi).mono ?_
  rintro e w1 ⟨A1, m1, c1, rfl, ho1, hn1⟩
  have hr1 := hr.new hn1
  have hml : m1 ≤ 10 := by
    have h1 := ho1.1
    have h2 := uvar_len (zig_lt num hlo hhi)
    simp at h1
    omega
  have HO1 := Lib.hid ho1
  have HN1 := Lib.hid hn1
  have HR1 := Lib.hid hr1
  clear ho1 hn1 hr1 hr
  go_wp2_with fail
  refine (refRaw_any A n c b w1 HR1.out (by omega)).mono ?_
  rintro e w2 ⟨A2, m2, c2, rfl, ho2, hn2⟩
  have hml2 : m2 ≤ 100000010 := by
    have h1 := ho2.1
    have h2 := uvar_len (n := b.length) (by rw [HBL.out]; omega)
    unfold rawP at h1
    simp [HBL.out] at h1 h2
    omega
  have ho1' := own_chg HO1.out hn2 (fun _ _ h => h)
  have HO1' := Lib.hid ho1'
  have HN2 := Lib.hid (HN1.out.new hn2)
  have HO2 := Lib.hid (Rd.of_own ho2)
  clear ho1' hn2 ho2 HO1
  go_wp2_with (at_builtin; refine wpList_app elemBytes rfl _ _ rfl rfl HO1'.out rfl HO2.out (bs_one _) (by simp only [maxLen]; omega) (by omega) HN2.out.size ?_; intro A' c' w3 hown3 hg3 hat3; have HO3 := Lib.hid hown3; clear hown3)
  go_ret
  refine ⟨A', m1 + m2, c', rfl, ?_, HN2.out.grown hg3 (fun j hj hlt' => by have := own_blk_le HO1'.out hj; omega)⟩
  have := HO3.out
  rw [show coreP num b = uvar (zig num) ++ rawP b from rfl, bs_append]
  exact this

set_option maxHeartbeats 1000000 in
set_option maxRecDepth 100000 in
theorem refFrame_any (num : Int) (A : Option Addr) (n c : Nat) (b : List UInt8) (w : World) (hlo : -9223372036854775808 ≤ num) (hhi : num ≤ 9223372036854775807) (hr : Rd w A n (bs b)) (hn : n ≤ 100000000) :
    Calls Try.prog 49 #[.int .i64 num, .slice A n c] w fun e w' => ∃ A m c, e = .returned (.slice A m c) ∧ w'.ownsRow w.heap.size 5 1 (.slice A m c) m (bs (frameP num b)) ∧ New w w' := by
  have hbl : b.length = n := by have := hr.len; rwa [bs_length] at this
  have hcl := coreP_len num b hlo hhi (by omega)
  have HBL := Lib.hid hbl
  go_enter Try.func49, Try.ntmps49
  go_wp2_with fail
  refine (refCore_any num A n c b w hlo hhi hr hn).mono ?_
  rintro e w1 ⟨A1, m1, c1, rfl, ho1, hn1⟩
  have hml : m1 ≤ 100000020 := by
    have h1 := ho1.1
    simp at h1
    omega
  have HO1 := Lib.hid (Rd.of_own ho1)
  have HN1 := Lib.hid hn1
  clear ho1 hn1 hr hbl
  go_wp2_with fail
  refine (refRaw_any A1 m1 c1 (coreP num b) w1 HO1.out (by omega)).mono ?_
  rintro e w2 ⟨A2, m2, c2, rfl, ho2, hn2⟩
  have hml2 : m2 ≤ 100000030 := by
    have h1 := ho2.1
    have h3 := HBL.out
    have h2 := uvar_len (n := (coreP num b).length) (by omega)
    unfold rawP at h1
    simp at h1
    omega
  have HO2 := Lib.hid ho2
  have HN2 := Lib.hid hn2
  have HR1 := Lib.hid (HO1.out.new hn2)
  clear ho2 hn2 HO1
  go_wp2_with fail
  refine (rbytes_any ⟨#[101, 110, 116, 114, 121]⟩ (by decide) A1 m1 c1 (coreP num b) w2 HR1.out (by omega)).mono ?_
  rintro e w3 ⟨rfl, hn3⟩
  rw [show bytesI (ByteArray.mk #[101, 110, 116, 114, 121]).data.toList (coreP num b) = (sumP (coreP num b) : Int) from bytesI_toNat _]
  have HO3 := Lib.hid (own_chg HO2.out hn3 (fun _ _ h => h))
  have HN3 := Lib.hid (HN2.out.new hn3)
  clear hn3 HO2 HN2 HR1
  go_wp2_with fail
  refine (refUint_any (sumP (coreP num b)) w3 (sumP_lt _)).mono ?_
  rintro e w4 ⟨A4, m4, c4, rfl, ho4, hn4⟩
  have hml4 : m4 ≤ 10 := by
    have h1 := ho4.1
    have h2 := uvar_len (sumP_lt (coreP num b))
    simp at h1
    omega
  have HO4 := Lib.hid (Rd.of_own ho4)
  have HO5 := Lib.hid (own_chg HO3.out hn4 (fun _ _ h => h))
  have HN4 := Lib.hid (HN3.out.new hn4)
  clear ho4 hn4 HO3 HN3
  go_wp2_with (at_builtin; refine wpList_app elemBytes rfl _ _ rfl rfl HO5.out rfl HO4.out (bs_one _) (by simp only [maxLen]; omega) (by omega) HN4.out.size ?_; intro A' c' w6 hown6 hg6 hat6; have HO6 := Lib.hid hown6; clear hown6)
  go_ret
  refine ⟨A', m2 + m4, c', rfl, ?_, HN1.out.new (HN4.out.grown hg6 (fun j hj hlt' => by have := own_blk_le HO5.out hj; omega))⟩
  have := own_base HO6.out HN1.out.size
  unfold frameP
  rw [bs_append]
  exact this

end Go.Proofs.Ytffehmfjcglalaa
