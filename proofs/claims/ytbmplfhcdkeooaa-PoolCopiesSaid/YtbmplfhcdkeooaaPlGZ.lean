/- Contract of pool: Open. -/
import Derived.Test.YtbmplfhcdkeooaaPlFZ
set_option linter.unusedSimpArgs false
set_option linter.unusedVariables false
namespace Go.Proofs.Ytbmplfhcdkeooaa
set_option linter.unusedVariables false
open Go.RowKit Go.Shelf Go.Mem Go.Pl
attribute [local go_sem] Oper.semAt_some

/-- The open ones among the first tasks. -/
def opensTo (s : S) (k : Nat) : List Int := ((s.jobs.take k).filter (fun j => j.ans.isNone)).map (·.id)
theorem opensTo_succ {s : S} {k : Nat} {j : Job} (h : s.jobs[k]? = some j) : opensTo s (k + 1) = opensTo s k ++ if j.ans.isNone then [j.id] else [] := by
  unfold opensTo
  rw [List.take_add_one, h, List.filter_append, List.map_append]
  cases hn : j.ans.isNone <;> simp [hn]
theorem opensTo_len (s : S) (k : Nat) : (opensTo s k).length ≤ k := by
  unfold opensTo
  rw [List.length_map]
  exact Nat.le_trans (List.length_filter_le _ _) (by rw [List.length_take]; omega)
theorem opensTo_all (s : S) : opensTo s s.jobs.length = opens s := by unfold opensTo opens; rw [List.take_length]
set_option maxRecDepth 100000 in
set_option maxHeartbeats 4000000 in
theorem plOpen_any (g m : Nat) (dv : Value) (V : Int → Loc) (T : Nat → Prop) (s : S) (w : World) (h : PI w g m dv V T s) :
    Calls Try.prog 13 #[.pointer (some ⟨g, 0, none⟩)] w fun e w' => ∃ A c, e = .returned (.slice A (opens s).length c) ∧ w'.ownsRow w.heap.size 3 1 (.slice A (opens s).length c) (opens s).length (is (opens s)) ∧ New w w' := by
  have HH := Lib.hid h
  have hjl := h.wf.len
  clear h
  refine (callsIn_wide (n := 10)).1 ?_
  refine callsIn_of_wp_marks Try.func13 rfl trivial ?_ rfl
  simp only [Try.ntmps13, List.size_toArray, List.length_cons, List.length_nil, Nat.reduceAdd, Nat.reduceSub, Array.replicate_succ, Array.replicate_zero, List.push_toArray, List.append_toArray, List.nil_append, List.cons_append]
  gi_wp2_with (refine ⟨trivial, ?_⟩; gi_at_call 46; refine (callsIn_wide.2 (all_any _ _)).mono ?_; rintro e w' ⟨rfl, hBs, hnew, hsz⟩)
  have hb1 : Blk w' w.heap.size 31 #[.slice none 0 0] := (Blk.new w 31 #[.slice none 0 0]).chg hnew (fun h => h)
  have hn1 : New w w' := ((Chg.refl _ w).alloc _).new hnew
  simp only [World.size_alloc] at hBs hsz ⊢
  have hp := HH.out.new hn1
  clear hnew
  refine wpIn_rangeN rfl (by omega) (gf := 70) (lb := #[.pointer (some ⟨w.heap.size + 1, 0, none⟩)]) rfl trivial (enters_of Try.func70 (by kernel_rfl) rfl)
    (all_seq 9 (by omega) g m (w.heap.size + 1) dv V T (fun k => k = w.heap.size) s w' hp (fun k hk e => by
      have := hk.elim (fun h => HH.out.lt h) (fun h => (HH.out.sep k h).1)
      omega) (by omega) hBs (fun k e => by omega)) (fun h h' => KpN.trans h h') (fun x W l o o' hl ho hoc => KpN.put _ _ W l o o' hl ho hoc) (fun _ => rfl) (fun pre x => FxA.stab _ _ _ _ _) (fun _ => Stab.const _ _) (fun _ => Stab.const _ _)
    (fun pre W => ∃ A n c, Blk W w.heap.size 31 #[.slice A n c] ∧ n = (opensTo s pre.length).length ∧ (∀ N, (∀ y ∈ pre, y.1 = N) → W.ownsRow N 3 1 (.slice A n c) n (is (opensTo s pre.length))) ∧ (∃ N, w'.heap.size ≤ N ∧ ∀ y ∈ pre, y.1 = N) ∧ Below w.heap.size w W)
    (fun _ _ _ => False) ?hI (fun _ _ => Stab.const _ _) ⟨none, 0, 0, hb1, by simp [opensTo], fun N _ => by simpa [opensTo, is] using World.ownsRow_nil _ _ _ _, ⟨w'.heap.size, Nat.le_refl _, by simp⟩, New.below hn1⟩ ?a1 ?assign ?body ?done ?stop
  case assign =>
    intro l' x W K hK
    gi_wp2
    exact hK
  case hI =>
    rintro pre W W' row ⟨A, n, c, h1, h2, h3, h4, h5⟩ hg hr
    exact ⟨A, n, c, blk_kept h1 hg (fun r e => (hr r e).2), h2, fun N hN => row_kept (h3 N hN) hg (fun r e => (hr r e).2), h4, h5.grown hg h5.size (fun k e => by have := (hr k e).1; have := hn1.size; omega)⟩
  case stop =>
    rintro D c pre W _ _ h _
    exact h.elim
  case body =>
    rintro l' pre x W ⟨A, n, c, hb, hnl, hown, hN0, hB⟩ ⟨hx1, hx2, hx3, hx4, hx5⟩
    obtain ⟨N, k⟩ := x
    dsimp only at hx1 hx2 hx3 hx4 hx5
    obtain ⟨j, hj⟩ : ∃ j, s.jobs[k]? = some j := ⟨_, List.getElem?_eq_getElem hx2⟩
    have hjm := List.mem_of_getElem? hj
    have hpW := HH.out.new (New.of_below hB)
    have hc6 := (hpW.task j hjm).cell 6 (u := .bool j.ans.isSome) rfl
    have htl := (hpW.task j hjm).lt
    have htw := (HH.out.task j hjm).lt
    have hcs := hb.cell 0 (u := .slice A n c) rfl
    have hfs := hb.frozen 0
    have hgl := hb.lt
    have ho := hown N hx3
    have hst := opensTo_succ hj
    have hl2 := opensTo_len s k
    rw [← hx1] at hnl ho
    obtain ⟨L, hL⟩ : ∃ L, opensTo s k = L := ⟨_, rfl⟩
    rw [hL] at hnl ho hst hl2
    have HN := Lib.hid hnl
    have HB := Lib.hid hb
    have HO := Lib.hid ho
    have HBB := Lib.hid hB
    have HX := Lib.hid hx1
    have HX3 := Lib.hid hx3
    have HL := Lib.hid hL
    have HST := Lib.hid hst
    have hnb : n ≤ 1024 := by omega
    have hsz1 : w.heap.size ≤ W.heap.size := hB.size
    have hwsz : w.heap.size + 2 ≤ w'.heap.size := by omega
    clear hb ho hB hown hnl hpW hL hst hp hb1 hn1 hBs hl2 hx1 hx3 hN0
    unfold encA
    rw [idA_at hj]
    dsimp only
    generalize (V j.id).tb = tb at *
    have hne : w.heap.size ≠ tb := by omega
    cases hd : j.ans.isSome with
    | true =>
      rw [hd] at hc6
      have hst : opensTo s (k + 1) = L := by
        have := HST.out
        rw [show j.ans.isNone = false by cases hq : j.ans <;> simp_all] at this
        simpa using this
      have HST2 := Lib.hid hst
      clear hst hd
      gi_wp2
      refine ⟨(KeepsOthers.refl _).from _, KpN.refl _ _ _ _, A, n, c, HB.out, ?_, fun N' hN' => ?_, ⟨N, hx4, fun y hy => ?_⟩, HBB.out⟩
      · rw [List.length_append, ← HX.out, List.length_singleton, HST2.out]; exact HN.out
      · obtain rfl : N = N' := hN' (N, k) (by simp)
        rw [List.length_append, ← HX.out, List.length_singleton, HST2.out]; exact HO.out
      · rcases List.mem_append.1 hy with hy | hy
        · exact HX3.out y hy
        · simp at hy; rw [hy]
    | false =>
      rw [hd] at hc6
      have hst : opensTo s (k + 1) = L ++ [j.id] := by
        have := HST.out
        rw [show j.ans.isNone = true by cases hq : j.ans <;> simp_all] at this
        simpa using this
      have HST2 := Lib.hid hst
      clear hst hd
      gi_wp2_with (gi_at_builtin; refine wpListIn_app elemInts rfl _ _ rfl rfl (HO.out.alloc _) rfl Rd.one (is_one [j.id]) (by simp only [maxLen]; omega) (by omega) (by simp; omega) ?_; intro A' c' w2 hown2 hg2 hat2; have hb2 := (HB.out.alloc _).grown hg2 (HB.out.ne_own HO.out (by decide)); have hcc2 := hb2.cell 0 (u := .slice A n c) rfl; have hff2 := hb2.frozen 0; have hgl2 := hb2.lt; have HB2 := Lib.hid hb2; have HO2 := Lib.hid (And.intro hown2 (And.intro hg2 hat2)); clear hb2 hown2 hg2 hat2)
      have hne2 := HB2.out.ne_own HO2.out.1 (by decide)
      have hchg : Chg (fun k => k = w.heap.size ∨ blk A = some k) W (w2.setCell ⟨w.heap.size, 0, none⟩ (.slice A' (n + 1) c')) :=
        (((Chg.refl _ W).alloc _).grown HO2.out.2.1 (fun k hk _ => .inr hk)).setCell (fun _ => .inl rfl) _
      have hkeep : KeepsOthers W (w2.setCell ⟨w.heap.size, 0, none⟩ (.slice A' (n + 1) c')) := (KeepsOthers.alloc _ _).trans ((KeepsOthers.of_app (HO.out.alloc _) HO2.out.2.1).trans (KeepsOthers.setCell _ _ _))
      refine ⟨hkeep.from _, KpN.chg hchg (Nat.le_trans hx4 hx5) hx5 (fun b hb => ?_), A', n + 1, c', HB2.out.set_ 0 _, ?_, fun N' hN' => ?_, ⟨N, hx4, fun y hy => ?_⟩, HBB.out.trans (hchg.below (fun b hb => ?_) HBB.out.size)⟩
      · rcases hb with hb | hb
        · exact .inl hb
        · have := own_blk_le HO.out hb; exact .inr ⟨this.1, by omega⟩
      · rw [List.length_append, ← HX.out, List.length_singleton, HST2.out, List.length_append, ← HN.out]; rfl
      · obtain rfl : N = N' := hN' (N, k) (by simp)
        rw [List.length_append, ← HX.out, List.length_singleton, HST2.out]
        have h1 := own_chg (S := fun b => b = w.heap.size) HO2.out.1 ((Chg.refl (fun b => b = w.heap.size) w2).setCell (p := ⟨w.heap.size, 0, none⟩) (fun _ => rfl) (.slice A' (n + 1) c')) (fun b hb e => hne2 (by rw [hb, e]))
        simpa [is] using h1
      · rcases List.mem_append.1 hy with hy | hy
        · exact HX3.out y hy
        · simp at hy; rw [hy]
      · rcases hb with hb | hb
        · omega
        · have := own_blk_le HO.out hb; omega
  case done =>
    rintro D ys W hD hlen ⟨A, n, c, hb, hnl, hown, ⟨N, hN1, hN2⟩, hB⟩ hK
    have ho := hown N hN2
    have e1 : opensTo s ys.length = opens s := by rw [hlen]; exact opensTo_all s
    rw [e1] at ho hnl
    have hcs := hb.cell 0 (u := .slice A n c) rfl
    have HO := Lib.hid ho
    have HBB := Lib.hid hB
    have HK := Lib.hid hK
    have HN := Lib.hid hnl
    clear hb ho hB hK hnl hown e1 hlen
    gi_wp2
    have hst : Stab 0 (fun V => V.ownsRow N 3 1 (.slice A n c) n (is (opens s))) := Stab.own _ _ _ _ _ _ _
    have hfin := hst.put (W := W) (l := D) (.deferred none) HO.out (Nat.zero_le _) HK.out rfl
    refine ⟨by simp, .inl ⟨_, _, rfl, run_takeDeferred HK.out, ?_⟩⟩
    rw [← HN.out]
    have hsz2 := hn1.size
    refine ⟨_, results_tmp rfl _ _ _, A, c, rfl, own_base hfin (by omega), New.of_below (HBB.out.trans (belowK_b (w := w) (Nat.le_refl _) _ D _ _ (by omega) HK.out rfl rfl))⟩
end Go.Proofs.Ytbmplfhcdkeooaa
