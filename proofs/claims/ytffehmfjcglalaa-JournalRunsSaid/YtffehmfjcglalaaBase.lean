/- Contracts of the small helpers of refuterref01: Around, Few, SameBytes. -/
import Derived.Test.YtffehmfjcglalaaProg
import Derived.Test.YtffehmfjcglalaaMem
import Derived.Deep.QuietTactic
import Derived.BigQuiet
namespace Go.Proofs.Ytffehmfjcglalaa
open Go.RowKit Go.Mem

theorem elemBytes : Elem Try.prog 33 5 (.int .u8 0) 1 := Elem.mk' Try.underlying33 (by kernel_rfl) rfl
theorem elemInts : Elem Try.prog 22 3 (.int .i64 0) 8 := Elem.mk' Try.underlying22 (by kernel_rfl) rfl

/-- refuterref01.Around on plain numbers. -/
def aroundI (a b : Int) : Int := if a < 0 then (-(a + 1)) % b else a % b
theorem aroundI_neg {a b : Int} (h : a < 0) : aroundI a b = (-(a + 1)).tmod b := by
  unfold aroundI; rw [if_pos h, Int.tmod_eq_emod_of_nonneg (by omega)]
theorem aroundI_pos {a b : Int} (h : 0 ≤ a) : aroundI a b = a % b := by unfold aroundI; rw [if_neg (by omega)]
theorem aroundI_range (a b : Int) (hb : 1 ≤ b) : 0 ≤ aroundI a b ∧ aroundI a b < b := by
  unfold aroundI
  split
  · exact ⟨Int.emod_nonneg _ (by omega), Int.emod_lt_of_pos _ (by omega)⟩
  · exact ⟨Int.emod_nonneg _ (by omega), Int.emod_lt_of_pos _ (by omega)⟩

theorem ret_int {k : IntKind} {a b : Int} (h : a = b) : Ending.returned (.int k a) = .returned (.int k b) := by rw [h]

set_option maxHeartbeats 400000 in
theorem around_any (a b : Int) (w : World) (ha : -9223372036854775808 ≤ a) (ha2 : a ≤ 9223372036854775807) (hb : 1 ≤ b) (hb2 : b ≤ 9223372036854775807) :
    Calls Try.prog 8 #[.int .i64 a, .int .i64 b] w fun e w' => e = .returned (.int .i64 (aroundI a b)) ∧ w = w' := by
  by_cases h : a < 0
  · go_enter Try.func8, Try.ntmps8
    go_wp2
    go_ret
    exact ⟨ret_int (by rw [aroundI_neg h, Int.neg_tmod]), rfl⟩
  · go_enter Try.func8, Try.ntmps8
    go_wp2
    go_ret
    exact ⟨ret_int (aroundI_pos h).symm, rfl⟩

set_option maxHeartbeats 400000 in
theorem few_any (A : Option Addr) (n c : Nat) (most : Nat) (l : List UInt8) (w : World) (hr : Rd w A n (bs l)) (hnc : n ≤ c) (hc : c ≤ 9223372036854775807) (hm : most ≤ 1000000) :
    Calls Try.prog 20 #[.slice A n c, .int .i64 most] w fun e w' => ∃ A' c', e = .returned (.slice A' (l.take most).length c') ∧
      w'.ownsRow w.heap.size 5 1 (.slice A' (l.take most).length c') (l.take most).length (bs (l.take most)) ∧ New w w' := by
  have hl : l.length = n := by simpa using hr.len
  have HL := Lib.hid hl
  by_cases h : n ≤ most
  · have hr' := hr
    have HE : Hid (l.take most = l ∧ (l.take most).length = n) := ⟨List.take_of_length_le (by omega), by simp; omega⟩
    clear hl
    go_enter Try.func20, Try.ntmps20
    go_wp2_with (at_builtin; refine wpList_app elemBytes rfl _ _ rfl rfl (World.ownsRow_nil w w.heap.size _ _) rfl hr' (bs_one _) (by simp only [maxLen]; omega) (by omega) (Nat.le_refl _) ?_; intro A' c' w1 hown hg hat)
    go_ret
    rw [HE.out.2, HE.out.1]
    refine ⟨A', c', ?_, ?_, (Chg.refl _ w).grown hg (fun k hk => by simp [blk] at hk)⟩
    · simp
    · simpa using hown
  · have hr' := hr.take (k := most) (by omega)
    rw [bs_take] at hr'
    have HE : Hid ((l.take most).length = most) := by simp [Hid]; omega
    clear hl
    go_enter Try.func20, Try.ntmps20
    go_wp2_with (at_builtin; refine wpList_app elemBytes rfl _ _ rfl rfl (World.ownsRow_nil w w.heap.size _ _) rfl hr' (bs_one _) (by simp only [maxLen]; omega) (by omega) (Nat.le_refl _) ?_; intro A' c' w1 hown hg hat)
    go_ret
    rw [HE.out]
    refine ⟨A', c', ?_, ?_, (Chg.refl _ w).grown hg (fun k hk => by simp [blk] at hk)⟩
    · simp
    · simpa using hown

theorem same_step {a b : List UInt8} {k : Nat} {x y : UInt8} (h : a.take k = b.take k) (hx : a[k]? = some x) (hy : b[k]? = some y) (e : x = y) : a.take (k + 1) = b.take (k + 1) := by
  rw [List.take_add_one, List.take_add_one, h, hx, hy, e]

set_option maxHeartbeats 1000000 in
theorem sameBytes_q (A B : Option Addr) (n m c d : Nat) (la lb : List UInt8) (w : World) (ha : Rd w A n (bs la)) (hb : Rd w B m (bs lb)) (hn : n ≤ 9223372036854775807) (hm : m ≤ 9223372036854775807) :
    Calls Try.prog 29 #[.slice A n c, .slice B m d] w fun e w' => e = .returned (.bool (decide (la = lb))) ∧ ∃ m, w' = w.drewN m := by
  have hla : la.length = n := by simpa using ha.len
  have hlb : lb.length = m := by simpa using hb.len
  by_cases h : n = m
  · subst h
    have HA := Lib.hid hla
    have HB := Lib.hid hlb
    clear hla hlb
    go_enter Try.func29, Try.ntmps29
    go_wp2
    go_loopw [5] (fun i wr => ∃ k : Nat, k ≤ n ∧ i = .int .i64 k ∧ la.take k = lb.take k ∧ ∃ q, wr = w.drewN q) (fun i _ => n - (intOf i).toNat)
    case atStart => exact ⟨0, Nat.zero_le _, rfl, rfl, 0, rfl⟩
    case round =>
      obtain ⟨k, hk, rfl, htake, hnew⟩ := hrel
      have HT := Lib.hid htake
      obtain ⟨q, hq⟩ := hnew
      have hnew : New w wr := by rw [hq]; exact (Chg.refl _ w).drewN q
      have HQ := Lib.hid hq
      clear htake hq
      by_cases hlt : k < n
      · obtain ⟨ad, u, rfl, hu, hcu⟩ := (ha.new hnew).at_ hlt
        obtain ⟨bd, v, rfl, hv, hcv⟩ := (hb.new hnew).at_ hlt
        obtain ⟨x, hx, rfl⟩ := bs_at hu
        obtain ⟨y, hy, rfl⟩ := bs_at hv
        have HX := Lib.hid hx
        have HY := Lib.hid hy
        clear hu hv hx hy ha hb
        go_wp2
        go_quiet (fail)
        go_wp2
        · have hne : ((x.toNat : Int) != (y.toNat : Int)) = true := by assumption
          have e : la ≠ lb := fun e => by
            have h1 := HX.out
            rw [e, HY.out] at h1
            injection h1 with h1
            subst h1
            simp at hne
          go_ret
          exact ⟨by simp [e], _, by rw [HQ.out, World.drewN_drewN]⟩
        · have heq : ((x.toNat : Int) != (y.toNat : Int)) = false := by assumption
          have e : x = y := by
            have h1 : (x.toNat : Int) = y.toNat := by simpa using heq
            exact UInt8.toNat_inj.1 (by omega)
          go_roundw
          case rel => exact ⟨k + 1, by omega, by go_num, same_step HT.out HX.out HY.out e, _, by rw [HQ.out, World.drewN_drewN]⟩
          case measure => simp [intOf]; omega
      · go_wp2
        go_ret
        have hk' : k = n := by omega
        subst hk'
        have e : la = lb := by
          have := HT.out
          rwa [List.take_of_length_le (by rw [HA.out]; omega), List.take_of_length_le (by rw [HB.out]; omega)] at this
        exact ⟨by simp [e], _, HQ.out⟩
  · have e : la ≠ lb := fun e => h (by rw [← hla, ← hlb, e])
    have hd : decide (la = lb) = false := by simpa using e
    have H := Lib.hid hd
    clear hla hlb hd
    go_enter Try.func29, Try.ntmps29
    go_wp2
    go_ret
    rw [H.out]
    exact ⟨by simp, 0, rfl⟩

theorem sameBytes_any (A B : Option Addr) (n m c d : Nat) (la lb : List UInt8) (w : World) (ha : Rd w A n (bs la)) (hb : Rd w B m (bs lb)) (hn : n ≤ 9223372036854775807) (hm : m ≤ 9223372036854775807) :
    Calls Try.prog 29 #[.slice A n c, .slice B m d] w fun e w' => e = .returned (.bool (decide (la = lb))) ∧ New w w' :=
  (sameBytes_q A B n m c d la lb w ha hb hn hm).mono fun _ _ ⟨h1, q, h2⟩ => ⟨h1, by rw [h2]; exact (Chg.refl _ w).drewN q⟩

end Go.Proofs.Ytffehmfjcglalaa
