/- Contracts of refuterref07: SameLists, Records. -/
import Derived.Test.YtffehmfjcglalaaBase
namespace Go.Proofs.Ytffehmfjcglalaa
open Go.RowKit Go.Mem

theorem elemListsB : Elem Try.prog 27 33 (.slice none 0 0) 24 := Elem.mk' Try.underlying27 (by kernel_rfl) rfl

/-- Rows of bytes; nothing is said of their room. -/
def ListsW (W : World) (vs : List Value) (ls : List (List UInt8)) : Prop :=
  vs.length = ls.length ∧ ∀ (i : Nat) (v : Value) (l : List UInt8), vs[i]? = some v → ls[i]? = some l → ∃ A n c, v = .slice A n c ∧ n ≤ maxLen ∧ Rd W A n (bs l) ∧ ∀ k, blk A = some k → k < W.heap.size
theorem ListsW.new {W W' : World} {vs : List Value} {ls : List (List UInt8)} (h : ListsW W vs ls) (hn : New W W') : ListsW W' vs ls :=
  ⟨h.1, fun i v l hv hl => by
    obtain ⟨A, n, c, h1, h2, h4, h5⟩ := h.2 i v l hv hl
    exact ⟨A, n, c, h1, h2, h4.new hn, fun k hk => Nat.lt_of_lt_of_le (h5 k hk) hn.size⟩⟩
theorem ListsW.of {W : World} {vs : List Value} {ls : List (List UInt8)} (h : Lists W vs ls) : ListsW W vs ls :=
  ⟨h.1, fun i v l hv hl => by
    obtain ⟨A, n, c, h1, h2, h3, h4, h5⟩ := h.2 i v l hv hl
    exact ⟨A, n, c, h1, Nat.le_trans h2 h3, h4, h5⟩⟩
theorem lists_step {a b : List (List UInt8)} {k : Nat} {x y : List UInt8} (h : a.take k = b.take k) (hx : a[k]? = some x) (hy : b[k]? = some y) (e : x = y) : a.take (k + 1) = b.take (k + 1) := by
  rw [List.take_add_one, List.take_add_one, h, hx, hy, e]

set_option maxHeartbeats 1000000 in
set_option maxRecDepth 100000 in
theorem sameLists_w (A B : Option Addr) (n m c d : Nat) (va vb : List Value) (la lb : List (List UInt8)) (w : World) (ha : Rd w A n va) (hla : ListsW w va la) (hb : Rd w B m vb) (hlb : ListsW w vb lb) (hn : n ≤ 9223372036854775807) (hm : m ≤ 9223372036854775807) :
    Calls Try.prog 17 #[.slice A n c, .slice B m d] w fun e w' => e = .returned (.bool (decide (la = lb))) ∧ ∃ q, w' = w.drewN q := by
  have hlen : la.length = n := by have h1 := ha.len; have h2 := hla.1; omega
  have hlen2 : lb.length = m := by have h1 := hb.len; have h2 := hlb.1; omega
  by_cases h : n = m
  · subst h
    have HA := Lib.hid hlen
    have HB := Lib.hid hlen2
    clear hlen hlen2
    go_enter Try.func17, Try.ntmps17
    go_wp2
    go_loopw [5] (fun i wr => ∃ k : Nat, k ≤ n ∧ i = .int .i64 k ∧ la.take k = lb.take k ∧ ∃ q, wr = w.drewN q) (fun i _ => n - (intOf i).toNat)
    case atStart => exact ⟨0, Nat.zero_le _, rfl, rfl, 0, rfl⟩
    case round =>
      obtain ⟨k, hk, rfl, htake, q, hq⟩ := hrel
      have HT := Lib.hid htake
      have hnew : New w wr := by rw [hq]; exact (Chg.refl _ w).drewN q
      have HQ := Lib.hid hq
      clear htake hq
      by_cases hlt : k < n
      · obtain ⟨ad, u, rfl, hu, hcu⟩ := (ha.new hnew).at_ hlt
        obtain ⟨bd, v, rfl, hv, hcv⟩ := (hb.new hnew).at_ hlt
        have hx : la[k]? = some (la[k]'(by rw [HA.out]; exact hlt)) := List.getElem?_eq_getElem _
        have hy : lb[k]? = some (lb[k]'(by rw [HB.out]; exact hlt)) := List.getElem?_eq_getElem _
        obtain ⟨x, hx⟩ : ∃ x, la[k]? = some x := ⟨_, hx⟩
        obtain ⟨y, hy⟩ : ∃ y, lb[k]? = some y := ⟨_, hy⟩
        obtain ⟨A1, n1, c1, rfl, hnc1, hr1, _⟩ := (hla.new hnew).2 k u x hu hx
        obtain ⟨A2, n2, c2, rfl, hnc2, hr2, _⟩ := (hlb.new hnew).2 k v y hv hy
        have HX := Lib.hid hx
        have HY := Lib.hid hy
        have HR1 := Lib.hid hr1
        have HR2 := Lib.hid hr2
        have hcm1' : n1 ≤ 9223372036854775807 := hnc1
        have hcm2' : n2 ≤ 9223372036854775807 := hnc2
        clear hu hv hx hy ha hb hla hlb hr1 hr2
        go_wp2
        go_quiet ((go_at_call 29; exact Calls.quiet_of (sameBytes_q A1 A2 n1 n2 c1 c2 x y _ HR1.out HR2.out hcm1' hcm2')))
        by_cases e : x = y
        · have hd : decide (x = y) = true := by simpa using e
          rw [hd]
          have HE := Lib.hid e
          clear e hd
          go_wp2
          go_roundw
          case rel => exact ⟨k + 1, by omega, by go_num, lists_step HT.out HX.out HY.out HE.out, _, by rw [HQ.out, World.drewN_drewN]⟩
          case measure => simp [intOf]; omega
        · have hd : decide (x = y) = false := by simpa using e
          rw [hd]
          have HE := Lib.hid e
          clear e hd
          go_wp2
          go_ret
          have ne : la ≠ lb := fun e => HE.out (by
            have h1 := HX.out
            rw [e, HY.out] at h1
            injection h1 with h1
            exact h1.symm)
          exact ⟨by simp [ne], _, by rw [HQ.out, World.drewN_drewN]⟩
      · go_wp2
        go_ret
        have hk' : k = n := by omega
        subst hk'
        have e : la = lb := by
          have := HT.out
          rwa [List.take_of_length_le (by rw [HA.out]; omega), List.take_of_length_le (by rw [HB.out]; omega)] at this
        exact ⟨by simp [e], _, HQ.out⟩
  · have e : la ≠ lb := fun e => h (by rw [← hlen, ← hlen2, e])
    have hd : decide (la = lb) = false := by simpa using e
    have H := Lib.hid hd
    clear hlen hlen2 hd
    go_enter Try.func17, Try.ntmps17
    go_wp2
    go_ret
    rw [H.out]
    exact ⟨by simp, 0, rfl⟩

theorem sameLists_any (A B : Option Addr) (n m c d : Nat) (va vb : List Value) (la lb : List (List UInt8)) (w : World) (ha : Rd w A n va) (hla : Lists w va la) (hb : Rd w B m vb) (hlb : Lists w vb lb) (hn : n ≤ 9223372036854775807) (hm : m ≤ 9223372036854775807) :
    Calls Try.prog 17 #[.slice A n c, .slice B m d] w fun e w' => e = .returned (.bool (decide (la = lb))) ∧ ∃ q, w' = w.drewN q :=
  sameLists_w A B n m c d va vb la lb w ha (.of hla) hb (.of hlb) hn hm

/-- One record of Records. -/
def recB (n : Nat) (m : Nat) : List UInt8 := (List.range m).map (fun k => UInt8.ofNat (n / 11 + k * n))
def recN (z : Int) : Nat := (aroundI z 1000).toNat
def recOf (z : Int) : List UInt8 := recB (recN z) (recN z % 11)
/-- The records that numbers stand for. -/
def recsOf (l : List Int) : List (List UInt8) := (l.take 6).map recOf
theorem ofNat_mod' (m : Nat) : ((m : Int) % 256) = ((UInt8.ofNat m).toNat : Int) := by simp
theorem recN_lt (z : Int) : recN z < 1000 := by
  have := aroundI_range z 1000 (by omega)
  unfold recN
  omega
theorem recN_eq (z : Int) : aroundI z 1000 = (recN z : Int) := by
  have := aroundI_range z 1000 (by omega)
  unfold recN
  omega
theorem recB_len (n m : Nat) : (recB n m).length = m := by simp [recB]
theorem recOf_len (z : Int) : (recOf z).length ≤ 10 := by
  unfold recOf
  rw [recB_len]
  omega
theorem recB_succ (n m : Nat) : recB n (m + 1) = recB n m ++ [UInt8.ofNat (n / 11 + m * n)] := by simp [recB, List.range_succ]

set_option maxHeartbeats 2000000 in
set_option maxRecDepth 100000 in
theorem records_spec (A : Option Addr) (n c : Nat) (l : List Int) (w : World) (hr : Rd w A n (is l)) (hn : n ≤ 9223372036854775807) (hwf : ∀ z ∈ l, -9223372036854775808 ≤ z ∧ z ≤ 9223372036854775807) :
    Calls Try.prog 11 #[.slice A n c] w fun e w' => ∃ A' m c' vs, e = .returned (.slice A' m c') ∧ w'.ownsRow w.heap.size 33 1 (.slice A' m c') m vs ∧ OLists w' w.heap.size 5 vs (recsOf l) ∧ New w w' := by
  have hll : l.length = n := by have := hr.len; rwa [is_length] at this
  have HLL := Lib.hid hll
  clear hll
  go_enter Try.func11, Try.ntmps11
  go_wp2
  go_loopw [3, 4] (fun v i wr => ∃ k : Nat, k ≤ 6 ∧ k ≤ n ∧ i = .int .i64 k ∧ ∃ A1 c1 vs, v = .slice A1 k c1 ∧ wr.ownsRow w.heap.size 33 1 (.slice A1 k c1) k vs ∧ OLists wr w.heap.size 5 vs ((l.take k).map recOf) ∧ New w wr)
    (fun _ i _ => 6 - (intOf i).toNat)
  case atStart => exact ⟨0, by omega, by omega, rfl, none, 0, [], rfl, World.ownsRow_nil _ _ _ _, OLists.nil _ _ _, Chg.refl _ w⟩
  case round =>
    obtain ⟨wo, rfl⟩ : ∃ wo : World, wo = wr := ⟨_, rfl⟩
    obtain ⟨k, hk6, hkn, rfl, A1, c1, vs, rfl, ho, hls, hnew⟩ := hrel
    have HO := Lib.hid ho
    have HLS := Lib.hid hls
    have HNW := Lib.hid hnew
    clear ho hls hnew
    by_cases hlt : k < n
    · by_cases h6 : k < 6
      · obtain ⟨ad, u, rfl, hu, hcu⟩ := (hr.new HNW.out).at_ hlt
        obtain ⟨z, hz, rfl⟩ := is_at hu
        have hzb := hwf z (List.mem_of_getElem? hz)
        have HZ := Lib.hid hz
        have HR := Lib.hid hr
        clear hu hz hr hwf
        go_wp2_with fail
        refine (around_any z 1000 wo hzb.1 hzb.2 (by omega) (by omega)).mono ?_
        rintro e w1 ⟨rfl, rfl⟩
        rw [recN_eq]
        have hN := recN_lt z
        generalize hNq : recN z = N at *
        have HN := Lib.hid hNq
        clear hNq
        go_wp2_with fail
        go_loopw [6, 7] (fun v i wq => ∃ j : Nat, j ≤ N % 11 ∧ i = .int .i64 j ∧ ∃ A2 c2, v = .slice A2 j c2 ∧ wq.ownsRow wo.heap.size 5 1 (.slice A2 j c2) j (bs (recB N j)) ∧ New wo wq)
          (fun _ i _ => 11 - (intOf i).toNat)
        case atStart => exact ⟨0, by omega, rfl, none, 0, rfl, World.ownsRow_nil _ _ _ _, Chg.refl _ _⟩
        case round =>
          obtain ⟨j, hj, rfl, A2, c2, rfl, ho2, hnew2⟩ := hrel
          have HO2 := Lib.hid ho2
          have HNW2 := Lib.hid hnew2
          clear ho2 hnew2
          by_cases hjl : j < N % 11
          · have hmul : (j : Int) * (N : Int) ≤ 9990 := by
              have h1 : j * N ≤ 10 * 999 := Nat.mul_le_mul (by omega) (by omega)
              have h2 : ((j * N : Nat) : Int) ≤ 9990 := by omega
              rwa [Int.natCast_mul] at h2
            have hmul0 : 0 ≤ (j : Int) * (N : Int) := Int.mul_nonneg (by omega) (by omega)
            have hmulq : ((j * N : Nat) : Int) = (j : Int) * (N : Int) := Int.natCast_mul _ _
            have HMQ := Lib.hid hmulq
            clear hmulq
            go_wp2_with (at_builtin; refine wpList_app elemBytes rfl _ _ rfl rfl (HO2.out.alloc _) rfl Rd.one (by simp [Value.oneCell']) (by simp only [maxLen]; omega) (by omega) (by have := HNW2.out.size; simp; omega) ?_; intro A' c' w2 hown2 hg2 hat2; have HO3 := Lib.hid hown2; clear hown2)
            go_roundw
            case rel =>
              refine ⟨j + 1, by omega, by go_num, A', c', rfl, ?_, ?_⟩
              · have := HO3.out
                rw [recB_succ, bs_append]
                rw [show ((N : Int) / 11 + (j : Int) * (N : Int)) = ((N / 11 + j * N : Nat) : Int) by have := HMQ.out; omega, ofNat_mod'] at this
                exact this
              · exact (HNW2.out.alloc _).grown hg2 (fun i hi hlt' => by have := own_blk_le HO2.out hi; omega)
            case measure => simp [intOf]; omega
          · obtain rfl : N % 11 = j := by omega
            have hls2 : OLists wr w.heap.size 5 (vs ++ [.slice A2 (N % 11) c2]) ((l.take k).map recOf ++ [recOf z]) := by
              have hro : recOf z = recB N (N % 11) := by unfold recOf; rw [HN.out]
              rw [hro]
              exact (HLS.out.new HNW2.out).snoc (own_base HO2.out HNW.out.size)
            have HLS2 := Lib.hid hls2
            have HO1 := Lib.hid (own_chg HO.out HNW2.out (fun _ _ h => h))
            clear hls2
            go_wp2_with (at_builtin; refine wpList_app elemListsB rfl _ _ rfl rfl (HO1.out.alloc _) rfl Rd.one (by simp [Value.oneCell']) (by simp only [maxLen]; omega) (by omega) (by have := HNW2.out.size; have := HNW.out.size; simp; omega) ?_; intro A' c' w2 hown2 hg2 hat2; have HO3 := Lib.hid hown2; clear hown2)
            go_roundw
            case rel =>
              have hc2 : New wr (wr.alloc (.cells #[.slice A2 (N % 11) c2] 33)) := (Chg.refl _ wr).alloc _
              have hchg : Chg (fun i => blk A1 = some i) wr w2 := hc2.mono (fun _ _ h => h.elim) |>.grown hg2 (fun i hi _ => hi)
              refine ⟨k + 1, by omega, by omega, by go_num, A', c', _, rfl, HO3.out, ?_, ?_⟩
              · rw [List.take_add_one, HZ.out]
                simp only [Option.toList_some, List.map_append, List.map_cons, List.map_nil]
                exact HLS2.out.chg hchg (row_not HO1.out (by decide))
              · exact ((HNW.out.new HNW2.out).alloc _).grown hg2 (fun i hi hlt' => by have := own_blk_le HO1.out hi; omega)
            case measure => simp [intOf]; omega
      · have h6' : decide ((k : Int) < 6) = false := by simp; omega
        go_wp2
        go_ret
        refine ⟨A1, k, c1, vs, rfl, HO.out, ?_, HNW.out⟩
        have : k = 6 := by omega
        subst this
        exact HLS.out
    · go_wp2
      go_ret
      refine ⟨A1, k, c1, vs, rfl, HO.out, ?_, HNW.out⟩
      have h1 := HLS.out
      rw [List.take_of_length_le (by rw [HLL.out]; omega)] at h1
      unfold recsOf
      rw [List.take_of_length_le (by rw [HLL.out]; omega)]
      exact h1

end Go.Proofs.Ytffehmfjcglalaa
