/- Contract of hash.Bytes. -/
import Derived.Test.YtbmplfhcdkeooaaHash2
namespace Go.Proofs.Ytbmplfhcdkeooaa
open Go.RowKit Go.Shelf Go.Mem Go.Pure
attribute [local go_sem] Oper.semAt_some

/-- What the words of the bytes, as ints, are. -/
def iw (pre : List Nat) : List Int := pre.map (fun n : Nat => wrap64 (n : Int))
theorem iw_snoc (pre : List Nat) (x : Nat) : iw (pre ++ [x]) = iw pre ++ [wrap64 (x : Int)] := by simp [iw]
theorem iw_length (pre : List Nat) : (iw pre).length = pre.length := by simp [iw]

set_option maxRecDepth 100000 in
set_option maxHeartbeats 2000000 in
theorem hbytes_any (s : ByteArray) (hs : s.size ≤ 1000000) (A : Option Addr) (n c : Nat) (l : List UInt8) (w : World) (hr : Rd w A n (bs l)) (hn : n ≤ 1000000000) (hA : ∀ k, blk A = some k → k < w.heap.size) :
    Calls Try.prog 56 #[.string s, .slice A n c] w fun e w' => e = .returned (.int .u64 (bytesI s.data.toList l)) ∧ New w w' := by
  have hll : l.length = n := by have := hr.len; rwa [bs_length] at this
  have HLL := Lib.hid hll
  clear hll
  obtain ⟨i0, hi, hz0, hz1, hz2⟩ := elemInts.2.1
  refine (callsIn_wide (n := 10)).1 ?_
  refine callsIn_of_wp_marks Try.func56 rfl trivial ?_ rfl
  simp only [Try.ntmps56, List.size_toArray, List.length_cons, List.length_nil, Nat.reduceAdd, Nat.reduceSub, Array.replicate_succ, Array.replicate_zero, List.push_toArray, List.append_toArray, List.nil_append, List.cons_append]
  gi_wp2_with (first | (gi_at_make; refine wpListIn_make_own _ rfl _ _ 31 rfl w.heap.size 3 i0 (.int .i64 0) 1 Try.underlying31 hi hz0 hz1 _ _ _ (n / 8 + 2) rfl rfl (by omega) (by rw [hz2]; omega) (by simp only [maxLen]; omega) (Nat.le_refl _) ?_; intro w1 hown1 hg1) | (refine ⟨trivial, ?_⟩; gi_at_call 75; refine (callsIn_wide.2 (groups_any _ _ _ _)).mono ?_; rintro e w' ⟨Bs, rfl, hBs, hnew, hle⟩))
  obtain ⟨g, hgz⟩ : ∃ g, w1.heap.size = g := ⟨_, rfl⟩
  rw [World.size_alloc, hgz] at hle
  have hwg : w.heap.size ≤ g := by rw [← hgz]; exact hg1.size
  have hn1 : New w w' := (((Chg.refl _ w).grown hg1 (fun k hk => by cases hk)).alloc _).new hnew
  have hb1 : Blk w' g 31 #[.slice (some ⟨w.heap.size, 0, none⟩) 0 (n / 8 + 2)] := by
    have := Blk.new w1 31 #[.slice (some ⟨w.heap.size, 0, none⟩) 0 (n / 8 + 2)]
    rw [hgz] at this
    exact this.chg hnew (fun h => h)
  have ho1 : w'.ownsRow w.heap.size 3 1 (.slice (some ⟨w.heap.size, 0, none⟩) 0 (n / 8 + 2)) 0 [] := own_chg (hown1.alloc _) hnew (fun _ _ h => h)
  have hbs := hBs.cell 0 rfl
  have hbl := hBs.lt
  rw [hgz]
  clear hnew hown1 hg1 hgz
  have hr' := hr.new hn1
  refine wpIn_rangeFunc_ownF rfl (by omega) (gf := 84) (lb := #[.pointer (some ⟨Bs, 0, none⟩)]) rfl trivial (enters_of Try.func84 (by kernel_rfl) rfl)
    (groups_stops 9 (by omega) Bs A n c l (by omega) w' hbs hr') (fun h h' => Keep.trans h h') ?kb (Below.refl _ _) (fun _ => rfl)
    (fun pre W => ∃ A1 c1, Blk W g 31 #[.slice A1 pre.length c1] ∧ W.ownsRow w.heap.size 3 1 (.slice A1 pre.length c1) pre.length (is (iw pre)) ∧ Blk W Bs 28 #[.slice A n c] ∧ Below w.heap.size w W)
    (fun _ _ _ => False)
    ?hI (fun _ _ _ _ _ hs _ _ => hs) ⟨_, _, hb1, ho1, hBs, New.below hn1⟩ ?a1 ?assign ?body ?done ?stop
  case assign =>
    intro l' x W K hK
    gi_wp2
    exact hK
  case kb =>
    intro W l' o o' hl' ho _ _ k hk
    refine World.putObj_heap_other ?_
    rcases hk with rfl | hk
    · omega
    · have := hA k hk; omega
  case hI =>
    rintro pre W W' row ⟨A1, c1, h1, h2, h3, h4⟩ hg hr
    exact ⟨A1, c1, blk_kept h1 hg (fun r e => (hr r e).2), row_kept h2 hg (fun r e => (hr r e).2), blk_kept h3 hg (fun r e => (hr r e).2), h4.grown hg h4.size (fun k e => by have := (hr k e).1; omega)⟩
  case body =>
    rintro l' pre x W ⟨A1, c1, hb, ho, hB3, hB⟩ hlen
    have hnw : nw l ≤ 125000001 := by unfold nw; rw [HLL.out]; omega
    have hcs := hb.cell 0 rfl
    have hfs := hb.frozen 0
    have hgl := hb.lt
    obtain ⟨N, hN⟩ : ∃ N, pre.length = N := ⟨_, rfl⟩
    have HN := Lib.hid hN
    rw [hN] at hb ho hcs hlen
    have HB := Lib.hid hb
    have HO := Lib.hid ho
    have HB3 := Lib.hid hB3
    have HBB := Lib.hid hB
    clear hb ho hB3 hB hN
    gi_wp2_with (gi_at_builtin; refine wpListIn_app elemInts rfl _ _ rfl rfl (HO.out.alloc _) rfl Rd.one (by simp [Value.oneCell']) (by simp only [maxLen]; omega) (by omega) (by have := HBB.out.size; simp; omega) ?_; intro A' c' w2 hown2 hg2 hat2; have hb2 := (HB.out.alloc _).grown hg2 (HB.out.ne_own HO.out (by decide)); have hcc2 := hb2.cell 0 rfl; have hff2 := hb2.frozen 0; have HB2 := Lib.hid hb2; have HO2 := Lib.hid hown2; clear hb2 hown2)
    have hchg : Chg (fun k => k = g ∨ blk A1 = some k) W (w2.setCell ⟨g, 0, none⟩ (.slice A' (N + 1) c')) :=
      ((((Chg.refl _ W).alloc _).grown hg2 (fun k hk _ => .inr hk)).setCell (fun _ => .inl rfl) _)
    have hne := HB2.out.ne_own HO2.out (by decide)
    refine ⟨(KeepsOthers.alloc _ _).trans ((KeepsOthers.of_app (HO.out.alloc _) hg2).trans (KeepsOthers.setCell _ _ _)), Keep.of_chg hchg ?_, A', c', ?_, ?_, ?_, ?_⟩
    · rintro k (rfl | hk)
      · exact ⟨HB3.out.lt, fun h => by
          rcases h with h | h
          · omega
          · exact HB3.out.ne_own HO.out (by decide) h⟩
      · have h1 := hA k hk
        have h2 := HBB.out.size
        exact ⟨by omega, fun h => by
          rcases h with h | h
          · omega
          · have := own_blk_le HO.out h; omega⟩
    · rw [List.length_append, HN.out]
      exact HB2.out.set_ 0 _
    · rw [List.length_append, HN.out, iw_snoc, is_append]
      change World.ownsRow _ _ _ _ (.slice A' (N + 1) c') (N + 1) (is (iw pre) ++ [Value.int .i64 (wrap64 (x : Int))])
      exact own_chg (S := fun k => k = g) HO2.out ((Chg.refl (fun k => k = g) w2).setCell (p := ⟨g, 0, none⟩) (fun _ => rfl) _) (fun k hk e => hne (by rw [hk, e]))
    · exact HB3.out.chg hchg (fun h => by
        rcases h with h | h
        · omega
        · exact HB3.out.ne_own HO.out (by decide) h)
    · exact HBB.out.trans (hchg.below (fun k h => by
        rcases h with h | h
        · omega
        · exact (own_blk_le HO.out h).1) HBB.out.size)
  case stop =>
    rintro D c pre W _ _ h _
    exact h.elim
  case done =>
    rintro D ys W hD rfl ⟨A1, c1, hb, ho, hB3, hB⟩ hK
    have hnw : nw l ≤ 125000001 := by unfold nw; rw [HLL.out]; omega
    have hcs := hb.cell 0 rfl
    have hfs := hb.frozen 0
    have hgl := hb.lt
    have hN := wds_length l
    obtain ⟨N, hN2⟩ : ∃ N, nw l = N := ⟨_, rfl⟩
    rw [hN2] at hN hnw
    rw [hN] at hb ho hcs
    have HN := Lib.hid hN
    have HB := Lib.hid hb
    have HO := Lib.hid ho
    have HBB := Lib.hid hB
    have HK := Lib.hid hK
    clear hb ho hB3 hB hN hN2 hK
    gi_wp2_with (first | (gi_at_builtin; refine wpListIn_app elemInts rfl _ _ rfl rfl (HO.out.alloc _) rfl Rd.one (by simp [Value.oneCell']) (by simp only [maxLen]; omega) (by omega) (by have := HBB.out.size; simp; omega) ?_; intro A' c' w2 hown2 hg2 hat2; have hb2 := (HB.out.alloc _).grown hg2 (HB.out.ne_own HO.out (by decide)); have hcc2 := hb2.cell 0 rfl; have hff2 := hb2.frozen 0; have HB2 := Lib.hid hb2; have HO2 := Lib.hid hown2; clear hb2 hown2))
    have hchg : Chg (fun k => k = g ∨ blk A1 = some k) W (w2.setCell ⟨g, 0, none⟩ (.slice A' (N + 1) c')) :=
      ((((Chg.refl _ W).alloc _).grown hg2 (fun k hk _ => .inr hk)).setCell (fun _ => .inl rfl) _)
    have hne := HB2.out.ne_own HO2.out (by decide)
    have ho3 : (w2.setCell ⟨g, 0, none⟩ (.slice A' (N + 1) c')).ownsRow w.heap.size 3 1 (.slice A' (N + 1) c') (N + 1) (is (iw (wds l) ++ [(n : Int)])) := by
      rw [is_append]
      exact own_chg (S := fun k => k = g) HO2.out ((Chg.refl (fun k => k = g) w2).setCell (p := ⟨g, 0, none⟩) (fun _ => rfl) _) (fun k hk e => hne (by rw [hk, e]))
    have hB3 : Below w.heap.size w (w2.setCell ⟨g, 0, none⟩ (.slice A' (N + 1) c')) := HBB.out.trans (hchg.below (fun k h => by
      rcases h with h | h
      · omega
      · exact (own_blk_le HO.out h).1) HBB.out.size)
    have hK3 : (w2.setCell ⟨g, 0, none⟩ (.slice A' (N + 1) c')).heap[D]? = some (.deferred (some [])) :=
      ((KeepsOthers.alloc _ _).trans ((KeepsOthers.of_app (HO.out.alloc _) hg2).trans (KeepsOthers.setCell _ _ _))).same D _ HK.out rfl
    refine ⟨trivial, (callsIn_wide.2 (sum_any s hs A' (N + 1) c' (iw (wds l) ++ [(n : Int)]) _ (Rd.of_own ho3) (by omega))).mono ?_⟩
    rintro e w3 ⟨rfl, hn3⟩
    have hK4 := hn3.heap hK3 (fun h => h)
    have HB3 := Lib.hid hB3
    have HK4 := Lib.hid hK4
    clear hB3 hK3 hK4 hchg ho3
    gi_wp2
    refine ⟨by simp, .inl ⟨_, _, rfl, run_takeDeferred HK4.out, ?_⟩⟩
    refine ⟨_, results_tmp rfl _ _ _, ?_, New.of_below ((HB3.out.trans (New.below hn3 |>.mono HB3.out.size)).trans (belowK_b (w := w) (Nat.le_refl _) _ D _ _ (by have := HBB.out.size; omega) HK4.out rfl rfl))⟩
    refine ret_int ?_
    unfold bytesI
    rw [HLL.out]
    rfl

end Go.Proofs.Ytbmplfhcdkeooaa
