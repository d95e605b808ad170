/- The reference's disk: Used, Files. -/
import Derived.Test.YtffehmfjcglalaaRdAZ
set_option linter.unusedSimpArgs false
set_option linter.unusedVariables false
namespace Go.Proofs.Ytffehmfjcglalaa
set_option linter.unusedVariables false
open Go.RowKit Go.Mem Go.Dk

theorem usedN_le_used (s : S) {k : Nat} (h : k ≤ 64) : usedN s.f k ≤ used s := by
  have : ∀ n m, usedN s.f n ≤ usedN s.f (n + m) := by
    intro n m
    induction m with
    | zero => exact Nat.le_refl _
    | succ m ih => exact Nat.le_trans ih (Nat.le_add_right _ _)
  have := this k (64 - k)
  rwa [show k + (64 - k) = 64 by omega] at this

set_option maxHeartbeats 1000000 in
set_option maxRecDepth 100000 in
theorem rUsed_any (g b f : Nat) (V : Nat → Value) (s : S) (w : World) (h : RI w g b f V s) :
    Calls Try.prog 56 #[.pointer (some ⟨g, 0, none⟩)] w fun e w' => e = .returned (.int .i64 (used s : Int)) ∧ New w w' := by
  have HH := Lib.hid h
  have hle := h.wf.used
  have hro := h.wf.room
  clear h
  go_enter Try.func56, Try.ntmps56
  go_wp2
  go_loopw [4, 3] (fun u v wr => ∃ k : Nat, k ≤ 64 ∧ u = .int .i64 (k : Int) ∧ v = .int .i64 ((usedN s.f k : Nat) : Int) ∧ New w wr) (fun u _ _ => 64 - (intOf u).toNat)
  case atStart => exact ⟨0, by omega, rfl, rfl, Chg.refl _ _⟩
  case round =>
    obtain ⟨k, hk, rfl, rfl, hnw⟩ := hrel
    have HR := Lib.hid (HH.out.new hnw)
    have HN := Lib.hid hnw
    clear hnw
    by_cases hlt : k < 64
    · obtain ⟨A, c, hv, _⟩ := HR.out.slice k
      have hcb := HR.out.core.cb hlt
      rw [hv] at hcb
      have hc1 := HR.out.core.cc.2.1
      have hgl := HR.out.core.blk.lt
      obtain ⟨n, hn⟩ : ∃ n, (s.f k).length = n := ⟨_, rfl⟩
      rw [hn] at hcb
      obtain ⟨q, hq⟩ : ∃ q, usedN s.f k = q := ⟨_, rfl⟩
      have hs : usedN s.f (k + 1) = q + n := by rw [← hq, ← hn]; rfl
      have hsl := usedN_le_used s (k := k + 1) (by omega)
      rw [hs] at hsl
      have HS := Lib.hid hs
      rw [hq]
      clear hv hn hq hs
      go_wp2
      go_roundw
      case rel => exact ⟨k + 1, by omega, by go_num, by rw [HS.out]; go_num, HN.out⟩
      case measure => simp [intOf]; omega
    · obtain rfl : k = 64 := by omega
      go_wp2
      go_ret
      exact ⟨rfl, HN.out⟩

set_option maxHeartbeats 1000000 in
set_option maxRecDepth 100000 in
theorem rFiles_any (g b f : Nat) (V : Nat → Value) (s : S) (w : World) (h : RI w g b f V s) :
    Calls Try.prog 47 #[.pointer (some ⟨g, 0, none⟩)] w fun e w' => ∃ A c, e = .returned (.slice A (filesI s).length c) ∧ w'.ownsRow w.heap.size 3 1 (.slice A (filesI s).length c) (filesI s).length (is (filesI s)) ∧ New w w' := by
  have HH := Lib.hid h
  clear h
  go_enter Try.func47, Try.ntmps47
  go_wp2
  go_loopw [4, 3] (fun u v wr => ∃ (k : Nat) (A : Option Addr) (n c : Nat), k ≤ 64 ∧ u = .int .i64 (k : Int) ∧ v = .slice A n c ∧ n = (filesN s.f k).length ∧ wr.ownsRow w.heap.size 3 1 (.slice A n c) n (is ((filesN s.f k).map (fun i : Nat => (i : Int)))) ∧ New w wr) (fun u _ _ => 64 - (intOf u).toNat)
  case atStart => exact ⟨0, none, 0, 0, by omega, rfl, rfl, rfl, World.ownsRow_nil _ _ _ _, Chg.refl _ _⟩
  case round =>
    obtain ⟨k, A, n, c, hk, rfl, rfl, hnl, hown, hnw⟩ := hrel
    have hnk := filesN_len s.f k
    have hn64 : n ≤ 64 := by omega
    have HR := Lib.hid (HH.out.new hnw)
    have HN := Lib.hid hnw
    have HO := Lib.hid hown
    have HL := Lib.hid hnl
    clear hnw hown hnl hnk
    by_cases hlt : k < 64
    · obtain ⟨A1, c1, hv, _⟩ := HR.out.slice k
      have hcb := HR.out.core.cb hlt
      rw [hv] at hcb
      have hc1 := HR.out.core.cc.2.1
      have hgl := HR.out.core.blk.lt
      obtain ⟨m, hm⟩ : ∃ m, (s.f k).length = m := ⟨_, rfl⟩
      rw [hm] at hcb
      have HM := Lib.hid hm
      clear hv hm
      have hz1 : w.heap.size ≤ wr.heap.size := HN.out.size
      by_cases h0 : 0 < m
      · have HE := Lib.hid (show filesN s.f (k + 1) = filesN s.f k ++ [k] by rw [filesN_succ, if_neg]; intro e; have := HM.out; simp at e; rw [e] at this; simp at this; omega)
        go_wp2_with (at_builtin; refine wpList_app elemInts rfl _ _ rfl rfl (HO.out.alloc _) rfl Rd.one (is_one [(k : Int)]) (by simp only [maxLen]; omega) (by omega) (by simp; omega) ?_; intro A' c' w2 hown2 hg2 hat2; have HO2 := Lib.hid hown2; have HG2 := Lib.hid (And.intro hg2 hat2); clear hown2 hg2 hat2)
        go_roundw
        case rel =>
          refine ⟨k + 1, A', n + 1, c', by omega, by go_num, by simp, by rw [HE.out, List.length_append, ← HL.out]; rfl, ?_, ?_⟩
          · have := HO2.out
            rw [HE.out]
            simpa [is] using this
          · exact (HN.out.alloc _).grown HG2.out.1 (fun k hk _ => by have := (own_blk_le HO.out hk).1; omega)
        case measure => simp [intOf]; omega
      · obtain rfl : m = 0 := by omega
        have HE := Lib.hid (show filesN s.f (k + 1) = filesN s.f k by rw [filesN_succ, if_pos, List.append_nil]; have := HM.out; simp; exact List.eq_nil_of_length_eq_zero this)
        go_wp2
        go_roundw
        case rel => exact ⟨k + 1, A, n, c, by omega, by go_num, rfl, by rw [HE.out]; exact HL.out, by rw [HE.out]; exact HO.out, HN.out⟩
        case measure => simp [intOf]; omega
    · obtain rfl : k = 64 := by omega
      go_wp2
      go_ret
      have e : (filesI s).length = n := by unfold filesI; rw [List.length_map]; exact HL.out.symm
      rw [e]
      exact ⟨A, c, rfl, HO.out, HN.out⟩
end Go.Proofs.Ytffehmfjcglalaa
