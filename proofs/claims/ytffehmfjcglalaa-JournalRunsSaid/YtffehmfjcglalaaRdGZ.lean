/- The reference's disk: New. -/
import Derived.Test.YtffehmfjcglalaaRdFZ
import Derived.Test.YtffehmfjcglalaaG4
set_option linter.unusedSimpArgs false
set_option linter.unusedVariables false
namespace Go.Proofs.Ytffehmfjcglalaa
set_option linter.unusedVariables false
open Go.RowKit Go.Mem Go.Dk

theorem elemLB : Elem Try.prog 27 33 (.slice none 0 0) 24 := Elem.mk' Try.underlying27 (by kernel_rfl) rfl
theorem run_mk64 {P : Program} {t e : TypeId} {z : Value} {bytes : Nat} (hE : Elem P t e z bytes) (hz : z.cells = #[z]) (b2 : bytes * 64 ≤ 281474976710656) (W : World) :
    (Instr.makeSlice t (.int .i64 64) (.int .i64 64)).run P W = .ok (.slice (some ⟨W.heap.size, 0, none⟩) 64 64) (W.alloc (.cells (madeCells #[z] 64) e)) := by
  obtain ⟨ht, ⟨i, hi, hz0, hz1, hz2⟩, hzs⟩ := hE
  have hb' : (i.bytes : Int) * ((64 : Nat) : Int) ≤ 281474976710656 := by
    rw [hz2]
    have h : ((bytes * 64 : Nat) : Int) ≤ 281474976710656 := by omega
    rwa [Int.natCast_mul] at h
  have hr := run_make (P := P) W t e i z ht hi hz0 .i64 .i64 64 64 (by omega) (Int.le_refl _) hb' (by omega)
  simp only [Int.toNat_natCast, hz1, Nat.mul_one] at hr
  rwa [hz] at hr
theorem made_row (z : Value) : madeCells #[z] 64 = ((List.range 64).map (fun _ => z)).toArray := by
  apply Array.toList_inj.1
  rw [toList_madeCells_one, List.map_const', List.length_range]
/-- A new disk out of its three blocks. -/
theorem RI.made {w : World} {g b f n : Nat} (hn : n ≤ 16777216) (h1 : Blk w g 55 #[.int .i64 (n : Int), .slice (some ⟨b, 0, none⟩) 64 64, .slice (some ⟨f, 0, none⟩) 64 64, .bool false, .int .i64 (-1)])
    (h2 : Blk w b 33 (madeCells #[.slice none 0 0] 64)) (h3 : Blk w f 3 (madeCells #[.int .i64 0] 64)) : RI w g b f (fun _ => .slice none 0 0) (Dk.new n) := by
  rw [made_row] at h2 h3
  exact ⟨⟨h1, h2, h3⟩, fun i => RowV.nil _ _ _, (fun i j k hk _ => by cases hk), WF.new hn⟩
theorem three_new (w : World) (c1 c2 c3 : Array Value) (t1 t2 t3 : TypeId) : let W := (((w.alloc (.cells c1 t1)).alloc (.cells c2 t2)).alloc (.cells c3 t3)).drew
    Blk W w.heap.size t1 c1 ∧ Blk W (w.heap.size + 1) t2 c2 ∧ Blk W (w.heap.size + 1 + 1) t3 c3 ∧ New w W := by
  have e1 : (w.alloc (.cells c1 t1)).heap.size = w.heap.size + 1 := by simp
  have e2 : ((w.alloc (.cells c1 t1)).alloc (.cells c2 t2)).heap.size = w.heap.size + 1 + 1 := by simp
  have n2 : New (w.alloc (.cells c1 t1)) (((w.alloc (.cells c1 t1)).alloc (.cells c2 t2)).alloc (.cells c3 t3)).drew := (((Chg.refl _ _).alloc _).alloc _).drew
  have n3 : New ((w.alloc (.cells c1 t1)).alloc (.cells c2 t2)) (((w.alloc (.cells c1 t1)).alloc (.cells c2 t2)).alloc (.cells c3 t3)).drew := ((Chg.refl _ _).alloc _).drew
  have n4 : New (((w.alloc (.cells c1 t1)).alloc (.cells c2 t2)).alloc (.cells c3 t3)) (((w.alloc (.cells c1 t1)).alloc (.cells c2 t2)).alloc (.cells c3 t3)).drew := (Chg.refl _ _).drew
  refine ⟨(Blk.new w t1 c1).chg n2 (fun h => h), ?_, ?_, ((((Chg.refl _ w).alloc _).alloc _).alloc _).drew⟩
  · have := (Blk.new (w.alloc (.cells c1 t1)) t2 c2).chg n3 (fun h => h)
    rwa [e1] at this
  · have := (Blk.new ((w.alloc (.cells c1 t1)).alloc (.cells c2 t2)) t3 c3).chg n4 (fun h => h)
    rwa [e2] at this

set_option maxHeartbeats 1000000 in
set_option maxRecDepth 100000 in
theorem rNew_any (room : Int) (hr : 0 ≤ room ∧ room ≤ 16777216) (w : World) :
    Calls Try.prog 22 #[.int .i64 room] w fun e w' => ∃ g b f, e = .returned (.pointer (some ⟨g, 0, none⟩)) ∧ RI w' g b f (fun _ => .slice none 0 0) (Dk.new room.toNat) ∧ New w w' ∧ w.heap.size ≤ g ∧ w.heap.size ≤ b ∧ w.heap.size ≤ f := by
  obtain ⟨n, rfl⟩ := Int.eq_ofNat_of_zero_le hr.1
  have hn : n ≤ 16777216 := by omega
  have hm1 := run_mk64 (P := Try.prog) elemLB rfl (by decide)
  have hm2 := run_mk64 (P := Try.prog) elemInts rfl (by decide)
  go_enter Try.func22, Try.ntmps22
  go_wp2
  go_region
  all_goals go_wp2
  all_goals go_ret
  · obtain ⟨h1, h2, h3, h4⟩ := three_new w (madeCells #[.slice none 0 0] 64) (madeCells #[.int .i64 0] 64) #[.int .i64 (n : Int), .slice (some ⟨w.heap.size, 0, none⟩) 64 64, .slice (some ⟨w.heap.size + 1, 0, none⟩) 64 64, .bool false, .int .i64 (-1)] 33 3 55
    exact ⟨_, w.heap.size, w.heap.size + 1, rfl, RI.made hn h3 h1 h2, h4, by omega, by omega, by omega⟩
  · obtain ⟨h1, h2, h3, h4⟩ := three_new w (madeCells #[.int .i64 0] 64) (madeCells #[.slice none 0 0] 64) #[.int .i64 (n : Int), .slice (some ⟨w.heap.size + 1, 0, none⟩) 64 64, .slice (some ⟨w.heap.size, 0, none⟩) 64 64, .bool false, .int .i64 (-1)] 3 33 55
    exact ⟨_, w.heap.size + 1, w.heap.size, rfl, RI.made hn h3 h2 h1, h4, by omega, by omega, by omega⟩
end Go.Proofs.Ytffehmfjcglalaa
