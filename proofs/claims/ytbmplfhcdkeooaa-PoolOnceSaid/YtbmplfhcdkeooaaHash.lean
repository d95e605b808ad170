/- Contracts of package hash: mix, groups, Sum, Bytes. -/
import Derived.Test.YtbmplfhcdkeooaaProg
import Derived.Test.YtbmplfhcdkeooaaMemIn
import Derived.Test.YtbmplfhcdkeooaaPureHash
import Derived.Test.YtbmplfhcdkeooaaBase
namespace Go.Proofs.Ytbmplfhcdkeooaa
open Go.RowKit Go.Shelf Go.Mem Go.Pure
attribute [local go_sem] Oper.semAt_some

set_option maxHeartbeats 400000 in
theorem mix_any (a b : Int) (w : World) :
    Calls Try.prog 85 #[.int .u64 a, .int .u64 b] w fun e w' => e = .returned (.int .u64 (mixI a b)) ∧ w = w' := by
  go_enter Try.func85, Try.ntmps85
  go_wp2
  go_ret
  exact ⟨rfl, rfl⟩

set_option maxRecDepth 100000 in
set_option maxHeartbeats 2000000 in
/-- hash.groups's closure, for every loop body that keeps the bytes and the closure's box. -/
theorem groups1_in (n : Nat) (hn : 1 ≤ n) (l Bs : Nat) (A : Option Addr) (len cap : Nat) (b : List UInt8) (hlen : len ≤ 1000000000) (J Jx : List Nat → World → Prop)
    (hY : ∀ pre x W, J pre W → pre.length < nw b → YieldAt Fence.wide (n - 1) Try.prog l #[.int .u64 (x : Nat)] W fun e W' =>
      (e = .returned (.bool true) ∧ J (pre ++ [x]) W' ∧ Keep (fun k => k = Bs ∨ blk A = some k) W W') ∨ (e = .returned (.bool false) ∧ Jx (pre ++ [x]) W'))
    (W : World) (hBs : W.cell? ⟨Bs, 0, none⟩ = some (.slice A len cap)) (hr : Rd W A len (bs b)) (h0 : J [] W) :
    CallsIn Fence.wide n Try.prog 84 #[.func (.yield l) #[] #[], .pointer (some ⟨Bs, 0, none⟩)] W fun e W' => (∃ v, e = .returned v) ∧
      ((∃ ys, ys = wds b ∧ J ys W') ∨ (∃ pre, (∃ k, k ≤ nw b ∧ pre = wdsTo b k) ∧ Jx pre W')) := by
  have hbl : b.length = len := by simpa using hr.len
  have HBL := Lib.hid hbl
  clear hbl
  refine callsIn_of_wp Try.func84 rfl trivial ?_ rfl
  simp only [Try.ntmps84, List.size_toArray, List.length_cons, List.length_nil, Nat.reduceAdd, Nat.reduceSub, Array.replicate_succ, Array.replicate_zero, List.push_toArray, List.append_toArray, List.nil_append, List.cons_append]
  gi_wp2
  gi_loopw [3] (fun i wr => ∃ k : Nat, 8 * k ≤ len + 7 ∧ i = .int .i64 (8 * (k : Int)) ∧ J (wdsTo b k) wr ∧ Keep (fun k => k = Bs ∨ blk A = some k) W wr)
    (fun i _ => len + 8 - (intOf i).toNat)
  case atStart => exact ⟨0, by omega, rfl, h0, Keep.refl _ _⟩
  case round =>
    obtain ⟨k, hk, rfl, hJ, hK⟩ := hrel
    have hBs' : wr.cell? ⟨Bs, 0, none⟩ = some (.slice A len cap) := (hK.cell (p := ⟨Bs, 0, none⟩) (.inl rfl)).trans hBs
    by_cases hlt : 8 * k < len
    · have HJ := Lib.hid hJ
      have HK := Lib.hid hK
      have HR := Lib.hid hr
      have HY := Lib.hid hY
      clear hJ hK hr hY
      obtain ⟨cnt, hc1, hc8, hcl, hc9⟩ : ∃ cnt : Nat, 1 ≤ cnt ∧ cnt ≤ 8 ∧ 8 * k + cnt ≤ len ∧ (cnt = 8 ∨ 8 * k + cnt = len) := by
        rcases Nat.lt_or_ge (8 * k + 8) len with h | h
        · exact ⟨8, by omega, by omega, by omega, .inl rfl⟩
        · exact ⟨len - 8 * k, by omega, by omega, by omega, .inr (by omega)⟩
      have HC9 := Lib.hid hc9
      clear hc9
      by_cases h8 : 8 * k + 8 ≤ len
      all_goals
        gi_wp2
        gi_loop [4, 5] (fun v i => ∃ j : Nat, j ≤ cnt ∧ i = .int .i64 (8 * (k : Int) + (j : Int) - 1) ∧ v = .int .u64 (word ((b.drop (8 * k + j)).take (cnt - j))))
          (fun _ i => (intOf i - 8 * (k : Int) + 1).toNat)
        case atStart =>
          refine ⟨cnt, Nat.le_refl _, ?_, by simp [word]⟩
          have := HC9.out
          first | (rw [show (8 * (k : Int) + 8 - 1) = 8 * (k : Int) + (cnt : Int) - 1 by omega]) | (rw [show ((len : Int) - 1) = 8 * (k : Int) + (cnt : Int) - 1 by omega])
        case round =>
          obtain ⟨j, hj, rfl, rfl⟩ := hrel
          rcases Nat.eq_zero_or_pos j with h0' | h0'
          · subst h0'
            have hkw : (wdsTo b k).length < nw b := by rw [wdsTo_length]; unfold nw; rw [HBL.out]; omega
            obtain ⟨fn, tmps, assign, body, hy, hR⟩ := HY.out _ (word ((b.drop (8 * k)).take cnt)) wr HJ.out hkw
            have HRR := Lib.hid hR
            clear hR
            gi_wp2
            refine HRR.out.mono ?_
            rintro e W3 (⟨rfl, hJ3, hk3⟩ | ⟨rfl, hJx3⟩)
            · gi_wp2
              go_roundw
              case rel => exact ⟨k + 1, by omega, by go_num, by rw [wdsTo_succ, ← wd_of_cnt HBL.out HC9.out hc8]; exact hJ3, HK.out.trans hk3⟩
              case measure => simp [intOf]; omega
            · gi_wp2
              refine bodyPost_ret (results_none rfl _ _ _) rfl ?_
              exact ⟨⟨_, rfl⟩, .inr ⟨_, ⟨k + 1, by unfold nw; rw [HBL.out]; omega, by rw [wdsTo_succ, ← wd_of_cnt HBL.out HC9.out hc8]⟩, hJx3⟩⟩
          · obtain ⟨j, rfl⟩ : ∃ j', j = j' + 1 := ⟨j - 1, by omega⟩
            obtain ⟨ad, u, rfl, hu, hcu⟩ := (HK.out.rd HR.out (fun k hk => .inr hk)).at_ (k := 8 * k + j) (by omega)
            obtain ⟨x, hx, rfl⟩ := bs_at hu
            have hw7 := word_lt7 (l := (b.drop (8 * k + (j + 1))).take (cnt - (j + 1))) (by simp; omega)
            have hst := Lib.hid (grp_val (m := cnt - (j + 1)) hx (by omega))
            clear hu hx
            gi_wp2
            go_round
            case rel => exact ⟨j, by omega, by go_num, by have := hst.out; rw [show 8 * k + (j + 1) = 8 * k + j + 1 from rfl, this, show cnt - (j + 1) + 1 = cnt - j by omega]⟩
            case measure => simp [intOf]; omega
    · have hk' : k = nw b := by unfold nw; rw [HBL.out]; omega
      gi_wp2
      go_end0
      subst hk'
      exact ⟨⟨_, rfl⟩, .inl ⟨_, rfl, hJ⟩⟩

end Go.Proofs.Ytbmplfhcdkeooaa
