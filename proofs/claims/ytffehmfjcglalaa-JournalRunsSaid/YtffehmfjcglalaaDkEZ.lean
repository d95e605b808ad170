/- Contracts of disk.Read, Append. -/
import Derived.Test.YtffehmfjcglalaaDkDZ
set_option linter.unusedSimpArgs false
set_option linter.unusedVariables false
namespace Go.Proofs.Ytffehmfjcglalaa
set_option linter.unusedVariables false
open Go.RowKit Go.Mem Go.Dk

theorem read_bad {s : S} {file : Int} (h : file < 0 ∨ 64 ≤ file) : read s file = ([], 1) := if_pos h
theorem read_off {s : S} {file : Int} (h : ¬ (file < 0 ∨ 64 ≤ file)) (ho : s.off = true) : read s file = ([], 24) := by unfold Dk.read; rw [if_neg h, if_pos ho]
theorem read_ok {s : S} {i : Nat} (h : i < 64) (ho : s.off = false) : read s (i : Int) = (s.f i, 0) := by unfold Dk.read; rw [if_neg (by omega), if_neg (by rw [ho]; simp)]; simp

set_option maxHeartbeats 1000000 in
set_option maxRecDepth 100000 in
theorem dRead_any (g m : Nat) (V : Nat → Value) (s : S) (w : World) (h : DI w g m V s) (file : Int) :
    Calls Try.prog 28 #[.pointer (some ⟨g, 0, none⟩), .int .i64 file] w fun e w' => ∃ A c, e = .returned (.tuple #[.slice A (read s file).1.length c, .int .i64 (read s file).2]) ∧
      w'.ownsRow w.heap.size 5 1 (.slice A (read s file).1.length c) (read s file).1.length (bs (read s file).1) ∧ New w w' := by
  have hc1 := h.core.blk.cell 1 (u := .map (some m)) rfl
  have hc2 := h.core.blk.cell 2 (u := .bool s.off) rfl
  have hgl := h.core.blk.lt
  have HH := Lib.hid h
  clear h
  by_cases h1 : file < 0
  · rw [read_bad (.inl h1)]
    go_enter Try.func28, Try.ntmps28
    go_wp2
    go_ret2
    exact ⟨none, 0, rfl, World.ownsRow_nil _ _ _ _, Chg.refl _ _⟩
  by_cases h2 : 64 ≤ file
  · rw [read_bad (.inr h2)]
    go_enter Try.func28, Try.ntmps28
    go_wp2
    go_ret2
    exact ⟨none, 0, rfl, World.ownsRow_nil _ _ _ _, Chg.refl _ _⟩
  have hno : ¬ (file < 0 ∨ 64 ≤ file) := by omega
  cases ho : s.off with
  | true =>
    rw [read_off hno ho]
    rw [ho] at hc2
    go_enter Try.func28, Try.ntmps28
    go_wp2
    go_ret2
    exact ⟨none, 0, rfl, World.ownsRow_nil _ _ _ _, Chg.refl _ _⟩
  | false =>
    obtain ⟨i, rfl⟩ := Int.eq_ofNat_of_zero_le (by omega : 0 ≤ file)
    have hi : i < 64 := by omega
    rw [read_ok hi ho]
    rw [ho] at hc2
    obtain ⟨A, c, hv, hlc, hcm⟩ := HH.out.slice i
    obtain ⟨n, hn⟩ : ∃ n, (s.f i).length = n := ⟨_, rfl⟩
    obtain ⟨d, hd⟩ : ∃ d, s.firm i = d := ⟨_, rfl⟩
    have hlen := HH.out.wf.len i
    rw [hn] at hv hlc hlen
    have hrd : Rd w A n (bs (s.f i)) := by have := HH.out.rows i; rw [hv] at this; exact this.rd
    have HV := Lib.hid hv
    have HD := Lib.hid hd
    have HR := Lib.hid hrd
    have HN := Lib.hid hn
    clear hv hd hrd hlc hcm
    rw [hn]
    clear hn
    have hfl : ∀ w : World, (Instr.field 70 (.agg #[.slice A n c, .int .i64 (d : Int)]) 0).run Try.prog w = .ok (.slice A n c) w := fun w => by kernel_rfl
    go_enter Try.func28, Try.ntmps28
    go_wp2_with (first
      | (at_lookup; refine wpList_file _ rfl _ _ rfl HH.out.core rfl (HH.out.core.map.chg ((Chg.refl (fun _ => False) w).alloc _) (fun h => h)) hi rfl HV.out HD.out ?_)
      | (at_builtin; refine wpList_app elemBytes rfl _ _ rfl rfl (World.ownsRow_made w _ 0 (Nat.le_refl _) (Nat.zero_le _) rfl) rfl (HR.out.new ((Chg.refl _ w).alloc _)) (bs_one _) (by simp only [maxLen]; omega) (by omega) (by simp) ?_; intro A' c' w2 hown2 hg2 hat2; have HO2 := Lib.hid (And.intro hown2 hg2); clear hown2 hg2 hat2))
    go_ret2
    refine ⟨A', c', by simp, by simpa using HO2.out.1, ?_⟩
    exact ((Chg.refl _ w).alloc _).grown HO2.out.2 (fun k hk hlt => by simp [blk] at hk; omega)
end Go.Proofs.Ytffehmfjcglalaa
