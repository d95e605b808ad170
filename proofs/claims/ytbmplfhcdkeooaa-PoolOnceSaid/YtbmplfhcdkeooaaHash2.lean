/- Contracts of package hash: groups, Sum. -/
import Derived.Test.YtbmplfhcdkeooaaHash
namespace Go.Proofs.Ytbmplfhcdkeooaa
open Go.RowKit Go.Shelf Go.Mem Go.Pure
attribute [local go_sem] Oper.semAt_some

set_option maxHeartbeats 400000 in
theorem groups_any (A : Option Addr) (len cap : Nat) (w : World) :
    Calls Try.prog 75 #[.slice A len cap] w fun e w' => ∃ Bs, e = .returned (.func (.func 84) #[] #[.pointer (some ⟨Bs, 0, none⟩)]) ∧ Blk w' Bs 28 #[.slice A len cap] ∧ New w w' ∧ w.heap.size ≤ Bs := by
  go_enter Try.func75, Try.ntmps75
  go_wp2
  go_ret
  exact ⟨w.heap.size, rfl, Blk.new _ _ _, (Chg.refl _ w).alloc _, Nat.le_refl _⟩

theorem groups_stops (n : Nat) (hn : 1 ≤ n) (Bs : Nat) (A : Option Addr) (len cap : Nat) (b : List UInt8) (hlen : len ≤ 1000000000) (w : World) (hBs : w.cell? ⟨Bs, 0, none⟩ = some (.slice A len cap)) (hr : Rd w A len (bs b)) :
    SeqStopsK Fence.wide n Try.prog 84 #[.pointer (some ⟨Bs, 0, none⟩)] (fun x : Nat => #[Value.int .u64 x]) (Keep (fun k => k = Bs ∨ blk A = some k)) (fun ys => ys = wds b) (fun _ => True) (nw b) w := fun l J Jx W hW _ _ hY h0 => by
  have hnew := New.of_below hW
  refine (groups1_in n hn l Bs A len cap b hlen J Jx hY W (hnew.cell hBs (fun h => h)) (hr.new hnew) h0).mono ?_
  rintro e W' ⟨he, ⟨ys, rfl, hj⟩ | ⟨pre, _, hj⟩⟩
  · exact ⟨he, .inl ⟨_, rfl, hj⟩⟩
  · exact ⟨he, .inr ⟨_, trivial, hj⟩⟩

set_option maxRecDepth 100000 in
set_option maxHeartbeats 2000000 in
theorem sum_any (s : ByteArray) (hs : s.size ≤ 1000000) (A : Option Addr) (n c : Nat) (l : List Int) (w : World) (hr : Rd w A n (is l)) (hn : n ≤ 1000000000) :
    Calls Try.prog 76 #[.string s, .slice A n c] w fun e w' => e = .returned (.int .u64 (sumI s.data.toList l)) ∧ New w w' := by
  refine (callsIn_wide (n := 10)).1 ?_
  refine callsIn_of_wp_marks Try.func76 rfl trivial ?_ rfl
  simp only [Try.ntmps76, List.size_toArray, List.length_cons, List.length_nil, Nat.reduceAdd, Nat.reduceSub, Array.replicate_succ, Array.replicate_zero, List.push_toArray, List.append_toArray, List.nil_append, List.cons_append]
  have hcv := fun W => Lib.run_convert_string_bytes (P := Try.prog) W 9 28 5 s Try.underlying9 Try.underlying28 Try.underlying5
  gi_wp2_with (refine ⟨trivial, ?_⟩; gi_at_call 75; refine (callsIn_wide.2 (groups_any _ _ _ _)).mono ?_; rintro e w' ⟨Bs, rfl, hBs, hnew, hle⟩)
  obtain ⟨w0, hw0⟩ : ∃ w0, w.alloc (.cells #[.int .u64 0] 114) = w0 := ⟨_, rfl⟩
  have hb0 : Blk w0 w.heap.size 114 #[.int .u64 0] := by rw [← hw0]; exact Blk.new _ _ _
  have hn0 : New w w0 := by rw [← hw0]; exact (Chg.refl _ w).alloc _
  have hz0 : w0.heap.size = w.heap.size + 1 := by rw [← hw0]; simp
  rw [hw0] at hBs hnew hle ⊢
  clear hw0
  rw [Lib.bytesWorld_size, hz0] at hle
  have hrb : Rd w' (some ⟨w.heap.size + 1, 0, none⟩) s.size (bs s.data.toList) := by
    have := conv_rd w0 5 s
    rw [hz0] at this
    exact this.new hnew
  have hn1 : New w w' := (hn0.new (conv_new w0 _ s)).new hnew
  have hb1 : Blk w' w.heap.size 114 #[.int .u64 0] := (hb0.chg (conv_new w0 _ s) (fun h => h)).chg hnew (fun h => h)
  have hbs := hBs.cell 0 rfl
  have hbl := hBs.lt
  clear hnew hcv hn0 hb0
  refine wpIn_rangeFunc_ownF rfl (by omega) (gf := 84) (lb := #[.pointer (some ⟨Bs, 0, none⟩)]) rfl trivial (enters_of Try.func84 (by kernel_rfl) rfl)
    (groups_stops 9 (by omega) Bs _ _ _ s.data.toList (by omega) w' hbs hrb) (fun h h' => Keep.trans h h') ?kb (Below.refl _ _) (fun _ => rfl)
    (fun pre W => Blk W w.heap.size 114 #[.int .u64 (absorb 0 (pre.map (fun n : Nat => (n : Int))))] ∧ Below w.heap.size w W)
    (fun _ _ _ => False)
    (OwnFrom.and (Own.from (own_blk w.heap.size 114 (fun pre : List Nat => #[.int .u64 (absorb 0 (pre.map (fun n : Nat => (n : Int))))])) _) (ownFrom_below (Nat.le_refl _) (by omega)))
    (fun _ _ _ _ _ hs _ _ => hs)
    ⟨hb1, New.below hn1⟩ ?a1 ?assign ?body ?done ?stop
  case assign =>
    intro l x W K hK
    gi_wp2
    exact hK
  case kb =>
    intro W l' o o' hl' ho _ _ k hk
    refine World.putObj_heap_other ?_
    rcases hk with rfl | hk
    · omega
    · simp [blk] at hk; omega
  case body =>
    rintro l' pre x W ⟨hb, hB⟩ _
    have hcs := hb.cell 0 rfl
    have hfs := hb.frozen 0
    gi_wp2_with (refine ⟨trivial, ?_⟩; gi_at_call 85; refine (CallsIn.inRound l' (callsIn_wide.2 (mix_any _ _ _))).mono ?_; rintro e w2 ⟨rfl, rfl⟩)
    refine ⟨KeepsOthers.setCell _ _ _, ?_, ?_, hB.setCell (p := ⟨w.heap.size, 0, none⟩) (Nat.le_refl _) _⟩
    · intro k hk
      refine Below.heap_setCell W ⟨w.heap.size, 0, none⟩ _ k ?_
      rcases hk with rfl | hk
      · simp; omega
      · simp [blk] at hk; simp; omega
    · have := hb.set_ 0 (.int .u64 (mixI (absorb 0 (pre.map (fun n : Nat => (n : Int)))) x))
      rw [List.map_append, List.map_cons, List.map_nil, absorb_snoc]
      exact this
  case stop =>
    rintro D c pre W _ _ h _
    exact h.elim
  case done =>
    rintro D ys W hD rfl ⟨hb, hB⟩ hK
    have hcs := hb.cell 0 rfl
    have hfs := hb.frozen 0
    have hrw : Rd W A n (is l) := hr.new (New.of_below hB)
    have hDn : w.heap.size < D := by omega
    have HB := Lib.hid hb
    have HBB := Lib.hid hB
    have HK := Lib.hid hK
    clear hb hB hK
    gi_wp2_with (refine ⟨trivial, ?_⟩; gi_at_call 85; refine (callsIn_wide.2 (mix_any _ _ _)).mono ?_; rintro e w2 ⟨rfl, rfl⟩)
    have hll : l.length = n := by have := hr.len; rwa [is_length] at this
    have HLL := Lib.hid hll
    clear hll
    gi_loopw [28] (fun i wr => ∃ k : Nat, k ≤ n ∧ i = .int .i64 k ∧ Blk wr w.heap.size 114 #[.int .u64 (absTo (mixI (mixI (absorb 0 ((wds s.data.toList).map (fun n : Nat => (n : Int)))) s.size) n) l k)] ∧ Below w.heap.size w wr ∧ wr.heap[D]? = some (.deferred (some [])))
      (fun i _ => n - (intOf i).toNat)
    case atStart =>
      refine ⟨0, Nat.zero_le _, rfl, ?_, ?_, ?_⟩
      · exact (HB.out.set_ 0 _).set_ 0 _
      · exact (HBB.out.setCell (p := ⟨w.heap.size, 0, none⟩) (Nat.le_refl _) _).setCell (p := ⟨w.heap.size, 0, none⟩) (Nat.le_refl _) _
      · exact (KeepsOthers.setCell _ _ _).same D _ ((KeepsOthers.setCell _ _ _).same D _ HK.out rfl) rfl
    case round =>
      obtain ⟨k, hk, rfl, hb, hB, hKd⟩ := hrel
      have hcs := hb.cell 0 rfl
      have hfs := hb.frozen 0
      have HB := Lib.hid hb
      have HBB := Lib.hid hB
      have HK := Lib.hid hKd
      clear hb hB hKd
      by_cases hlt : k < n
      · obtain ⟨ad, u, rfl, hu, hcu⟩ := (hr.new (New.of_below HBB.out)).at_ hlt
        obtain ⟨z, hz, rfl⟩ := is_at hu
        have HZ := Lib.hid hz
        clear hu hz hr hrw
        gi_wp2_with (refine ⟨trivial, ?_⟩; gi_at_call 85; refine (callsIn_wide.2 (mix_any _ _ _)).mono ?_; rintro e w2 ⟨rfl, rfl⟩)
        go_roundw
        case rel =>
          refine ⟨k + 1, by omega, by go_num, ?_, HBB.out.setCell (p := ⟨w.heap.size, 0, none⟩) (Nat.le_refl _) _, (KeepsOthers.setCell _ _ _).same D _ HK.out rfl⟩
          rw [absTo_succ HZ.out]
          exact HB.out.set_ 0 _
        case measure => simp [intOf]; omega
      · obtain rfl : n = k := by omega
        gi_wp2_with (refine ⟨trivial, ?_⟩; gi_at_call 85; refine (callsIn_wide.2 (mix_any _ _ _)).mono ?_; rintro e w2 ⟨rfl, rfl⟩)
        refine ⟨by simp, .inl ⟨_, _, rfl, run_takeDeferred HK.out, ?_⟩⟩
        refine ⟨_, results_tmp rfl _ _ _, ?_, New.of_below (HBB.out.trans (belowK_b (w := w) (Nat.le_refl _) _ D _ _ (by omega) HK.out rfl rfl))⟩
        refine ret_int ?_
        have := HLL.out
        subst this
        rw [absTo_all]
        unfold sumI
        rw [Array.length_toList]
        rfl

end Go.Proofs.Ytbmplfhcdkeooaa
