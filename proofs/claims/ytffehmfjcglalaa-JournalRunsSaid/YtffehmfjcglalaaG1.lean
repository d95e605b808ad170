/- The parts Hash, Hash2, Hash3 of the proof, in one text. -/
import Derived.Test.YtffehmfjcglalaaProg
import Derived.Test.YtffehmfjcglalaaMemIn
import Derived.Test.YtffehmfjcglalaaG0
import Derived.Test.YtffehmfjcglalaaBase
set_option linter.unusedSimpArgs false
set_option linter.unusedVariables false

namespace Go.Proofs.Ytffehmfjcglalaa
open Go.RowKit Go.Shelf Go.Mem Go.Pure
attribute [local go_sem] Oper.semAt_some

set_option maxHeartbeats 400000 in
theorem mix_any (a b : Int) (w : World) :
    Calls Try.prog 64 #[.int .u64 a, .int .u64 b] w fun e w' => e = .returned (.int .u64 (mixI a b)) ∧ w = w' := by
  go_enter Try.func64, Try.ntmps64
  go_wp2
  go_ret
  exact ⟨rfl, rfl⟩

set_option maxRecDepth 100000 in
set_option maxHeartbeats 2000000 in
/-- hash.groups's closure, for every loop body that keeps the bytes and the closure's box. -/
theorem groups1_in (n : Nat) (hn : 1 ≤ n) (l Bs : Nat) (A : Option Addr) (len cap : Nat) (b : List UInt8) (hlen : len ≤ 1000000000) (J Jx : List Nat → World → Prop)
    (hY : ∀ pre x W, J pre W → pre.length < nw b → YieldAt Fence.wide (n - 1) Try.prog l #[.int .u64 (x : Nat)] W fun e W' =>
      (e = .returned (.bool true) ∧ J (pre ++ [x]) W' ∧ Keep (fun k => k = Bs ∨ blk A = some k) W W') ∨ (e = .returned (.bool false) ∧ Jx (pre ++ [x]) W'))
    (W : World) (hBs : W.cell? ⟨Bs, 0, none⟩ = some (.slice A len cap)) (hr : Rd W A len (bs b)) (h0 : J [] W) :
    CallsIn Fence.wide n Try.prog 63 #[.func (.yield l) #[] #[], .pointer (some ⟨Bs, 0, none⟩)] W fun e W' => (∃ v, e = .returned v) ∧
      ((∃ ys, ys = wds b ∧ J ys W') ∨ (∃ pre, (∃ k, k ≤ nw b ∧ pre = wdsTo b k) ∧ Jx pre W')) := by
  have hbl : b.length = len := by simpa using hr.len
  have HBL := Lib.hid hbl
  clear hbl
  refine callsIn_of_wp Try.func63 rfl trivial ?_ rfl
  simp only [Try.ntmps63, List.size_toArray, List.length_cons, List.length_nil, Nat.reduceAdd, Nat.reduceSub, Array.replicate_succ, Array.replicate_zero, List.push_toArray, List.append_toArray, List.nil_append, List.cons_append]
  gi_wp2
  gi_loopw [3] (fun i wr => ∃ k : Nat, 8 * k ≤ len + 7 ∧ i = .int .i64 (8 * (k : Int)) ∧ J (wdsTo b k) wr ∧ Keep (fun k => k = Bs ∨ blk A = some k) W wr)
    (fun i _ => len + 8 - (intOf i).toNat)
  case atStart => exact ⟨0, by omega, rfl, h0, Keep.refl _ _⟩
  case round =>
    obtain ⟨k, hk, rfl, hJ, hK⟩ := hrel
    have hBs' : wr.cell? ⟨Bs, 0, none⟩ = some (.slice A len cap) := (hK.cell (p := ⟨Bs, 0, none⟩) (.inl rfl)).trans hBs
    by_cases hlt : 8 * k < len
    · have HJ := Lib.hid hJ
      have HK := Lib.hid hK
      have HR := Lib.hid hr
      have HY := Lib.hid hY
      clear hJ hK hr hY
      obtain ⟨cnt, hc1, hc8, hcl, hc9⟩ : ∃ cnt : Nat, 1 ≤ cnt ∧ cnt ≤ 8 ∧ 8 * k + cnt ≤ len ∧ (cnt = 8 ∨ 8 * k + cnt = len) := by
        rcases Nat.lt_or_ge (8 * k + 8) len with h | h
        · exact ⟨8, by omega, by omega, by omega, .inl rfl⟩
        · exact ⟨len - 8 * k, by omega, by omega, by omega, .inr (by omega)⟩
      have HC9 := Lib.hid hc9
      clear hc9
      by_cases h8 : 8 * k + 8 ≤ len
      all_goals
        gi_wp2
        gi_loop [4, 5] (fun v i => ∃ j : Nat, j ≤ cnt ∧ i = .int .i64 (8 * (k : Int) + (j : Int) - 1) ∧ v = .int .u64 (word ((b.drop (8 * k + j)).take (cnt - j))))
          (fun _ i => (intOf i - 8 * (k : Int) + 1).toNat)
        case atStart =>
          refine ⟨cnt, Nat.le_refl _, ?_, by simp [word]⟩
          have := HC9.out
          first | (rw [show (8 * (k : Int) + 8 - 1) = 8 * (k : Int) + (cnt : Int) - 1 by omega]) | (rw [show ((len : Int) - 1) = 8 * (k : Int) + (cnt : Int) - 1 by omega])
        case round =>
          obtain ⟨j, hj, rfl, rfl⟩ := hrel
          rcases Nat.eq_zero_or_pos j with h0' | h0'
          · subst h0'
            have hkw : (wdsTo b k).length < nw b := by rw [wdsTo_length]; unfold nw; rw [HBL.out]; omega
            obtain ⟨fn, tmps, assign, body, hy, hR⟩ := HY.out _ (word ((b.drop (8 * k)).take cnt)) wr HJ.out hkw
            have HRR := Lib.hid hR
            clear hR
            gi_wp2
            refine HRR.out.mono ?_
            rintro e W3 (⟨rfl, hJ3, hk3⟩ | ⟨rfl, hJx3⟩)
            · gi_wp2
              go_roundw
              case rel => exact ⟨k + 1, by omega, by go_num, by rw [wdsTo_succ, ← wd_of_cnt HBL.out HC9.out hc8]; exact hJ3, HK.out.trans hk3⟩
              case measure => simp [intOf]; omega
            · gi_wp2
              refine bodyPost_ret (results_none rfl _ _ _) rfl ?_
              exact ⟨⟨_, rfl⟩, .inr ⟨_, ⟨k + 1, by unfold nw; rw [HBL.out]; omega, by rw [wdsTo_succ, ← wd_of_cnt HBL.out HC9.out hc8]⟩, hJx3⟩⟩
          · obtain ⟨j, rfl⟩ : ∃ j', j = j' + 1 := ⟨j - 1, by omega⟩
            obtain ⟨ad, u, rfl, hu, hcu⟩ := (HK.out.rd HR.out (fun k hk => .inr hk)).at_ (k := 8 * k + j) (by omega)
            obtain ⟨x, hx, rfl⟩ := bs_at hu
            have hw7 := word_lt7 (l := (b.drop (8 * k + (j + 1))).take (cnt - (j + 1))) (by simp; omega)
            have hst := Lib.hid (grp_val (m := cnt - (j + 1)) hx (by omega))
            clear hu hx
            gi_wp2
            go_round
            case rel => exact ⟨j, by omega, by go_num, by have := hst.out; rw [show 8 * k + (j + 1) = 8 * k + j + 1 from rfl, this, show cnt - (j + 1) + 1 = cnt - j by omega]⟩
            case measure => simp [intOf]; omega
    · have hk' : k = nw b := by unfold nw; rw [HBL.out]; omega
      gi_wp2
      go_end0
      subst hk'
      exact ⟨⟨_, rfl⟩, .inl ⟨_, rfl, hJ⟩⟩

end Go.Proofs.Ytffehmfjcglalaa

namespace Go.Proofs.Ytffehmfjcglalaa
open Go.RowKit Go.Shelf Go.Mem Go.Pure
attribute [local go_sem] Oper.semAt_some

set_option maxHeartbeats 400000 in
theorem groups_any (A : Option Addr) (len cap : Nat) (w : World) :
    Calls Try.prog 51 #[.slice A len cap] w fun e w' => ∃ Bs, e = .returned (.func (.func 63) #[] #[.pointer (some ⟨Bs, 0, none⟩)]) ∧ Blk w' Bs 33 #[.slice A len cap] ∧ New w w' ∧ w.heap.size ≤ Bs := by
  go_enter Try.func51, Try.ntmps51
  go_wp2
  go_ret
  exact ⟨w.heap.size, rfl, Blk.new _ _ _, (Chg.refl _ w).alloc _, Nat.le_refl _⟩

theorem groups_stops (n : Nat) (hn : 1 ≤ n) (Bs : Nat) (A : Option Addr) (len cap : Nat) (b : List UInt8) (hlen : len ≤ 1000000000) (w : World) (hBs : w.cell? ⟨Bs, 0, none⟩ = some (.slice A len cap)) (hr : Rd w A len (bs b)) :
    SeqStopsK Fence.wide n Try.prog 63 #[.pointer (some ⟨Bs, 0, none⟩)] (fun x : Nat => #[Value.int .u64 x]) (Keep (fun k => k = Bs ∨ blk A = some k)) (fun ys => ys = wds b) (fun _ => True) (nw b) w := fun l J Jx W hW _ _ hY h0 => by
  have hnew := New.of_below hW
  refine (groups1_in n hn l Bs A len cap b hlen J Jx hY W (hnew.cell hBs (fun h => h)) (hr.new hnew) h0).mono ?_
  rintro e W' ⟨he, ⟨ys, rfl, hj⟩ | ⟨pre, _, hj⟩⟩
  · exact ⟨he, .inl ⟨_, rfl, hj⟩⟩
  · exact ⟨he, .inr ⟨_, trivial, hj⟩⟩

set_option maxRecDepth 100000 in
set_option maxHeartbeats 2000000 in
theorem sum_any (s : ByteArray) (hs : s.size ≤ 1000000) (A : Option Addr) (n c : Nat) (l : List Int) (w : World) (hr : Rd w A n (is l)) (hn : n ≤ 1000000000) :
    Calls Try.prog 52 #[.string s, .slice A n c] w fun e w' => e = .returned (.int .u64 (sumI s.data.toList l)) ∧ New w w' := by
  refine (callsIn_wide (n := 10)).1 ?_
  refine callsIn_of_wp_marks Try.func52 rfl trivial ?_ rfl
  simp only [Try.ntmps52, List.size_toArray, List.length_cons, List.length_nil, Nat.reduceAdd, Nat.reduceSub, Array.replicate_succ, Array.replicate_zero, List.push_toArray, List.append_toArray, List.nil_append, List.cons_append]
  have hcv := fun W => Lib.run_convert_string_bytes (P := Try.prog) W 9 33 5 s Try.underlying9 Try.underlying33 Try.underlying5
  gi_wp2_with (refine ⟨trivial, ?_⟩; gi_at_call 51; refine (callsIn_wide.2 (groups_any _ _ _ _)).mono ?_; rintro e w' ⟨Bs, rfl, hBs, hnew, hle⟩)
  obtain ⟨w0, hw0⟩ : ∃ w0, w.alloc (.cells #[.int .u64 0] 76) = w0 := ⟨_, rfl⟩
  have hb0 : Blk w0 w.heap.size 76 #[.int .u64 0] := by rw [← hw0]; exact Blk.new _ _ _
  have hn0 : New w w0 := by rw [← hw0]; exact (Chg.refl _ w).alloc _
  have hz0 : w0.heap.size = w.heap.size + 1 := by rw [← hw0]; simp
  rw [hw0] at hBs hnew hle ⊢
  clear hw0
  rw [Lib.bytesWorld_size, hz0] at hle
  have hrb : Rd w' (some ⟨w.heap.size + 1, 0, none⟩) s.size (bs s.data.toList) := by
    have := conv_rd w0 5 s
    rw [hz0] at this
    exact this.new hnew
  have hn1 : New w w' := (hn0.new (conv_new w0 _ s)).new hnew
  have hb1 : Blk w' w.heap.size 76 #[.int .u64 0] := (hb0.chg (conv_new w0 _ s) (fun h => h)).chg hnew (fun h => h)
  have hbs := hBs.cell 0 rfl
  have hbl := hBs.lt
  clear hnew hcv hn0 hb0
  refine wpIn_rangeFunc_ownF rfl (by omega) (gf := 63) (lb := #[.pointer (some ⟨Bs, 0, none⟩)]) rfl trivial (enters_of Try.func63 (by kernel_rfl) rfl)
    (groups_stops 9 (by omega) Bs _ _ _ s.data.toList (by omega) w' hbs hrb) (fun h h' => Keep.trans h h') ?kb (Below.refl _ _) (fun _ => rfl)
    (fun pre W => Blk W w.heap.size 76 #[.int .u64 (absorb 0 (pre.map (fun n : Nat => (n : Int))))] ∧ Below w.heap.size w W)
    (fun _ _ _ => False)
    (OwnFrom.and (Own.from (own_blk w.heap.size 76 (fun pre : List Nat => #[.int .u64 (absorb 0 (pre.map (fun n : Nat => (n : Int))))])) _) (ownFrom_below (Nat.le_refl _) (by omega)))
    (fun _ _ _ _ _ hs _ _ => hs)
    ⟨hb1, New.below hn1⟩ ?a1 ?assign ?body ?done ?stop
  case assign =>
    intro l x W K hK
    gi_wp2
    exact hK
  case kb =>
    intro W l' o o' hl' ho _ _ k hk
    refine World.putObj_heap_other ?_
    rcases hk with rfl | hk
    · omega
    · simp [blk] at hk; omega
  case body =>
    rintro l' pre x W ⟨hb, hB⟩ _
    have hcs := hb.cell 0 rfl
    have hfs := hb.frozen 0
    gi_wp2_with (refine ⟨trivial, ?_⟩; gi_at_call 64; refine (CallsIn.inRound l' (callsIn_wide.2 (mix_any _ _ _))).mono ?_; rintro e w2 ⟨rfl, rfl⟩)
    refine ⟨KeepsOthers.setCell _ _ _, ?_, ?_, hB.setCell (p := ⟨w.heap.size, 0, none⟩) (Nat.le_refl _) _⟩
    · intro k hk
      refine Below.heap_setCell W ⟨w.heap.size, 0, none⟩ _ k ?_
      rcases hk with rfl | hk
      · simp; omega
      · simp [blk] at hk; simp; omega
    · have := hb.set_ 0 (.int .u64 (mixI (absorb 0 (pre.map (fun n : Nat => (n : Int)))) x))
      rw [List.map_append, List.map_cons, List.map_nil, absorb_snoc]
      exact this
  case stop =>
    rintro D c pre W _ _ h _
    exact h.elim
  case done =>
    rintro D ys W hD rfl ⟨hb, hB⟩ hK
    have hcs := hb.cell 0 rfl
    have hfs := hb.frozen 0
    have hrw : Rd W A n (is l) := hr.new (New.of_below hB)
    have hDn : w.heap.size < D := by omega
    have HB := Lib.hid hb
    have HBB := Lib.hid hB
    have HK := Lib.hid hK
    clear hb hB hK
    gi_wp2_with (refine ⟨trivial, ?_⟩; gi_at_call 64; refine (callsIn_wide.2 (mix_any _ _ _)).mono ?_; rintro e w2 ⟨rfl, rfl⟩)
    have hll : l.length = n := by have := hr.len; rwa [is_length] at this
    have HLL := Lib.hid hll
    clear hll
    gi_loopw [28] (fun i wr => ∃ k : Nat, k ≤ n ∧ i = .int .i64 k ∧ Blk wr w.heap.size 76 #[.int .u64 (absTo (mixI (mixI (absorb 0 ((wds s.data.toList).map (fun n : Nat => (n : Int)))) s.size) n) l k)] ∧ Below w.heap.size w wr ∧ wr.heap[D]? = some (.deferred (some [])))
      (fun i _ => n - (intOf i).toNat)
    case atStart =>
      refine ⟨0, Nat.zero_le _, rfl, ?_, ?_, ?_⟩
      · exact (HB.out.set_ 0 _).set_ 0 _
      · exact (HBB.out.setCell (p := ⟨w.heap.size, 0, none⟩) (Nat.le_refl _) _).setCell (p := ⟨w.heap.size, 0, none⟩) (Nat.le_refl _) _
      · exact (KeepsOthers.setCell _ _ _).same D _ ((KeepsOthers.setCell _ _ _).same D _ HK.out rfl) rfl
    case round =>
      obtain ⟨k, hk, rfl, hb, hB, hKd⟩ := hrel
      have hcs := hb.cell 0 rfl
      have hfs := hb.frozen 0
      have HB := Lib.hid hb
      have HBB := Lib.hid hB
      have HK := Lib.hid hKd
      clear hb hB hKd
      by_cases hlt : k < n
      · obtain ⟨ad, u, rfl, hu, hcu⟩ := (hr.new (New.of_below HBB.out)).at_ hlt
        obtain ⟨z, hz, rfl⟩ := is_at hu
        have HZ := Lib.hid hz
        clear hu hz hr hrw
        gi_wp2_with (refine ⟨trivial, ?_⟩; gi_at_call 64; refine (callsIn_wide.2 (mix_any _ _ _)).mono ?_; rintro e w2 ⟨rfl, rfl⟩)
        go_roundw
        case rel =>
          refine ⟨k + 1, by omega, by go_num, ?_, HBB.out.setCell (p := ⟨w.heap.size, 0, none⟩) (Nat.le_refl _) _, (KeepsOthers.setCell _ _ _).same D _ HK.out rfl⟩
          rw [absTo_succ HZ.out]
          exact HB.out.set_ 0 _
        case measure => simp [intOf]; omega
      · obtain rfl : n = k := by omega
        gi_wp2_with (refine ⟨trivial, ?_⟩; gi_at_call 64; refine (callsIn_wide.2 (mix_any _ _ _)).mono ?_; rintro e w2 ⟨rfl, rfl⟩)
        refine ⟨by simp, .inl ⟨_, _, rfl, run_takeDeferred HK.out, ?_⟩⟩
        refine ⟨_, results_tmp rfl _ _ _, ?_, New.of_below (HBB.out.trans (belowK_b (w := w) (Nat.le_refl _) _ D _ _ (by omega) HK.out rfl rfl))⟩
        refine ret_int ?_
        have := HLL.out
        subst this
        rw [absTo_all]
        unfold sumI
        rw [Array.length_toList]
        rfl

end Go.Proofs.Ytffehmfjcglalaa

namespace Go.Proofs.Ytffehmfjcglalaa
open Go.RowKit Go.Shelf Go.Mem Go.Pure
attribute [local go_sem] Oper.semAt_some

/-- What the words of the bytes, as ints, are. -/
def iw (pre : List Nat) : List Int := pre.map (fun n : Nat => wrap64 (n : Int))
theorem iw_snoc (pre : List Nat) (x : Nat) : iw (pre ++ [x]) = iw pre ++ [wrap64 (x : Int)] := by simp [iw]
theorem iw_length (pre : List Nat) : (iw pre).length = pre.length := by simp [iw]

set_option maxRecDepth 100000 in
set_option maxHeartbeats 2000000 in
theorem hbytes_any (s : ByteArray) (hs : s.size ≤ 1000000) (A : Option Addr) (n c : Nat) (l : List UInt8) (w : World) (hr : Rd w A n (bs l)) (hn : n ≤ 1000000000) (hA : ∀ k, blk A = some k → k < w.heap.size) :
    Calls Try.prog 38 #[.string s, .slice A n c] w fun e w' => e = .returned (.int .u64 (bytesI s.data.toList l)) ∧ New w w' := by
  have hll : l.length = n := by have := hr.len; rwa [bs_length] at this
  have HLL := Lib.hid hll
  clear hll
  obtain ⟨i0, hi, hz0, hz1, hz2⟩ := elemInts.2.1
  refine (callsIn_wide (n := 10)).1 ?_
  refine callsIn_of_wp_marks Try.func38 rfl trivial ?_ rfl
  simp only [Try.ntmps38, List.size_toArray, List.length_cons, List.length_nil, Nat.reduceAdd, Nat.reduceSub, Array.replicate_succ, Array.replicate_zero, List.push_toArray, List.append_toArray, List.nil_append, List.cons_append]
  gi_wp2_with (first | (gi_at_make; refine wpListIn_make_own _ rfl _ _ 22 rfl w.heap.size 3 i0 (.int .i64 0) 1 Try.underlying22 hi hz0 hz1 _ _ _ (n / 8 + 2) rfl rfl (by omega) (by rw [hz2]; omega) (by simp only [maxLen]; omega) (Nat.le_refl _) ?_; intro w1 hown1 hg1) | (refine ⟨trivial, ?_⟩; gi_at_call 51; refine (callsIn_wide.2 (groups_any _ _ _ _)).mono ?_; rintro e w' ⟨Bs, rfl, hBs, hnew, hle⟩))
  obtain ⟨g, hgz⟩ : ∃ g, w1.heap.size = g := ⟨_, rfl⟩
  rw [World.size_alloc, hgz] at hle
  have hwg : w.heap.size ≤ g := by rw [← hgz]; exact hg1.size
  have hn1 : New w w' := (((Chg.refl _ w).grown hg1 (fun k hk => by cases hk)).alloc _).new hnew
  have hb1 : Blk w' g 22 #[.slice (some ⟨w.heap.size, 0, none⟩) 0 (n / 8 + 2)] := by
    have := Blk.new w1 22 #[.slice (some ⟨w.heap.size, 0, none⟩) 0 (n / 8 + 2)]
    rw [hgz] at this
    exact this.chg hnew (fun h => h)
  have ho1 : w'.ownsRow w.heap.size 3 1 (.slice (some ⟨w.heap.size, 0, none⟩) 0 (n / 8 + 2)) 0 [] := own_chg (hown1.alloc _) hnew (fun _ _ h => h)
  have hbs := hBs.cell 0 rfl
  have hbl := hBs.lt
  rw [hgz]
  clear hnew hown1 hg1 hgz
  have hr' := hr.new hn1
  refine wpIn_rangeFunc_ownF rfl (by omega) (gf := 63) (lb := #[.pointer (some ⟨Bs, 0, none⟩)]) rfl trivial (enters_of Try.func63 (by kernel_rfl) rfl)
    (groups_stops 9 (by omega) Bs A n c l (by omega) w' hbs hr') (fun h h' => Keep.trans h h') ?kb (Below.refl _ _) (fun _ => rfl)
    (fun pre W => ∃ A1 c1, Blk W g 22 #[.slice A1 pre.length c1] ∧ W.ownsRow w.heap.size 3 1 (.slice A1 pre.length c1) pre.length (is (iw pre)) ∧ Blk W Bs 33 #[.slice A n c] ∧ Below w.heap.size w W)
    (fun _ _ _ => False)
    ?hI (fun _ _ _ _ _ hs _ _ => hs) ⟨_, _, hb1, ho1, hBs, New.below hn1⟩ ?a1 ?assign ?body ?done ?stop
  case assign =>
    intro l' x W K hK
    gi_wp2
    exact hK
  case kb =>
    intro W l' o o' hl' ho _ _ k hk
    refine World.putObj_heap_other ?_
    rcases hk with rfl | hk
    · omega
    · have := hA k hk; omega
  case hI =>
    rintro pre W W' row ⟨A1, c1, h1, h2, h3, h4⟩ hg hr
    exact ⟨A1, c1, blk_kept h1 hg (fun r e => (hr r e).2), row_kept h2 hg (fun r e => (hr r e).2), blk_kept h3 hg (fun r e => (hr r e).2), h4.grown hg h4.size (fun k e => by have := (hr k e).1; omega)⟩
  case body =>
    rintro l' pre x W ⟨A1, c1, hb, ho, hB3, hB⟩ hlen
    have hnw : nw l ≤ 125000001 := by unfold nw; rw [HLL.out]; omega
    have hcs := hb.cell 0 rfl
    have hfs := hb.frozen 0
    have hgl := hb.lt
    obtain ⟨N, hN⟩ : ∃ N, pre.length = N := ⟨_, rfl⟩
    have HN := Lib.hid hN
    rw [hN] at hb ho hcs hlen
    have HB := Lib.hid hb
    have HO := Lib.hid ho
    have HB3 := Lib.hid hB3
    have HBB := Lib.hid hB
    clear hb ho hB3 hB hN
    gi_wp2_with (gi_at_builtin; refine wpListIn_app elemInts rfl _ _ rfl rfl (HO.out.alloc _) rfl Rd.one (by simp [Value.oneCell']) (by simp only [maxLen]; omega) (by omega) (by have := HBB.out.size; simp; omega) ?_; intro A' c' w2 hown2 hg2 hat2; have hb2 := (HB.out.alloc _).grown hg2 (HB.out.ne_own HO.out (by decide)); have hcc2 := hb2.cell 0 rfl; have hff2 := hb2.frozen 0; have HB2 := Lib.hid hb2; have HO2 := Lib.hid hown2; clear hb2 hown2)
    have hchg : Chg (fun k => k = g ∨ blk A1 = some k) W (w2.setCell ⟨g, 0, none⟩ (.slice A' (N + 1) c')) :=
      ((((Chg.refl _ W).alloc _).grown hg2 (fun k hk _ => .inr hk)).setCell (fun _ => .inl rfl) _)
    have hne := HB2.out.ne_own HO2.out (by decide)
    refine ⟨(KeepsOthers.alloc _ _).trans ((KeepsOthers.of_app (HO.out.alloc _) hg2).trans (KeepsOthers.setCell _ _ _)), Keep.of_chg hchg ?_, A', c', ?_, ?_, ?_, ?_⟩
    · rintro k (rfl | hk)
      · exact ⟨HB3.out.lt, fun h => by
          rcases h with h | h
          · omega
          · exact HB3.out.ne_own HO.out (by decide) h⟩
      · have h1 := hA k hk
        have h2 := HBB.out.size
        exact ⟨by omega, fun h => by
          rcases h with h | h
          · omega
          · have := own_blk_le HO.out h; omega⟩
    · rw [List.length_append, HN.out]
      exact HB2.out.set_ 0 _
    · rw [List.length_append, HN.out, iw_snoc, is_append]
      change World.ownsRow _ _ _ _ (.slice A' (N + 1) c') (N + 1) (is (iw pre) ++ [Value.int .i64 (wrap64 (x : Int))])
      exact own_chg (S := fun k => k = g) HO2.out ((Chg.refl (fun k => k = g) w2).setCell (p := ⟨g, 0, none⟩) (fun _ => rfl) _) (fun k hk e => hne (by rw [hk, e]))
    · exact HB3.out.chg hchg (fun h => by
        rcases h with h | h
        · omega
        · exact HB3.out.ne_own HO.out (by decide) h)
    · exact HBB.out.trans (hchg.below (fun k h => by
        rcases h with h | h
        · omega
        · exact (own_blk_le HO.out h).1) HBB.out.size)
  case stop =>
    rintro D c pre W _ _ h _
    exact h.elim
  case done =>
    rintro D ys W hD rfl ⟨A1, c1, hb, ho, hB3, hB⟩ hK
    have hnw : nw l ≤ 125000001 := by unfold nw; rw [HLL.out]; omega
    have hcs := hb.cell 0 rfl
    have hfs := hb.frozen 0
    have hgl := hb.lt
    have hN := wds_length l
    obtain ⟨N, hN2⟩ : ∃ N, nw l = N := ⟨_, rfl⟩
    rw [hN2] at hN hnw
    rw [hN] at hb ho hcs
    have HN := Lib.hid hN
    have HB := Lib.hid hb
    have HO := Lib.hid ho
    have HBB := Lib.hid hB
    have HK := Lib.hid hK
    clear hb ho hB3 hB hN hN2 hK
    gi_wp2_with (first | (gi_at_builtin; refine wpListIn_app elemInts rfl _ _ rfl rfl (HO.out.alloc _) rfl Rd.one (by simp [Value.oneCell']) (by simp only [maxLen]; omega) (by omega) (by have := HBB.out.size; simp; omega) ?_; intro A' c' w2 hown2 hg2 hat2; have hb2 := (HB.out.alloc _).grown hg2 (HB.out.ne_own HO.out (by decide)); have hcc2 := hb2.cell 0 rfl; have hff2 := hb2.frozen 0; have HB2 := Lib.hid hb2; have HO2 := Lib.hid hown2; clear hb2 hown2))
    have hchg : Chg (fun k => k = g ∨ blk A1 = some k) W (w2.setCell ⟨g, 0, none⟩ (.slice A' (N + 1) c')) :=
      ((((Chg.refl _ W).alloc _).grown hg2 (fun k hk _ => .inr hk)).setCell (fun _ => .inl rfl) _)
    have hne := HB2.out.ne_own HO2.out (by decide)
    have ho3 : (w2.setCell ⟨g, 0, none⟩ (.slice A' (N + 1) c')).ownsRow w.heap.size 3 1 (.slice A' (N + 1) c') (N + 1) (is (iw (wds l) ++ [(n : Int)])) := by
      rw [is_append]
      exact own_chg (S := fun k => k = g) HO2.out ((Chg.refl (fun k => k = g) w2).setCell (p := ⟨g, 0, none⟩) (fun _ => rfl) _) (fun k hk e => hne (by rw [hk, e]))
    have hB3 : Below w.heap.size w (w2.setCell ⟨g, 0, none⟩ (.slice A' (N + 1) c')) := HBB.out.trans (hchg.below (fun k h => by
      rcases h with h | h
      · omega
      · exact (own_blk_le HO.out h).1) HBB.out.size)
    have hK3 : (w2.setCell ⟨g, 0, none⟩ (.slice A' (N + 1) c')).heap[D]? = some (.deferred (some [])) :=
      ((KeepsOthers.alloc _ _).trans ((KeepsOthers.of_app (HO.out.alloc _) hg2).trans (KeepsOthers.setCell _ _ _))).same D _ HK.out rfl
    refine ⟨trivial, (callsIn_wide.2 (sum_any s hs A' (N + 1) c' (iw (wds l) ++ [(n : Int)]) _ (Rd.of_own ho3) (by omega))).mono ?_⟩
    rintro e w3 ⟨rfl, hn3⟩
    have hK4 := hn3.heap hK3 (fun h => h)
    have HB3 := Lib.hid hB3
    have HK4 := Lib.hid hK4
    clear hB3 hK3 hK4 hchg ho3
    gi_wp2
    refine ⟨by simp, .inl ⟨_, _, rfl, run_takeDeferred HK4.out, ?_⟩⟩
    refine ⟨_, results_tmp rfl _ _ _, ?_, New.of_below ((HB3.out.trans (New.below hn3 |>.mono HB3.out.size)).trans (belowK_b (w := w) (Nat.le_refl _) _ D _ _ (by have := HBB.out.size; omega) HK4.out rfl rfl))⟩
    refine ret_int ?_
    unfold bytesI
    rw [HLL.out]
    rfl

end Go.Proofs.Ytffehmfjcglalaa
