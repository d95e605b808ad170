/- Contract of disk.put. -/
import Derived.Test.YtffehmfjcglalaaDkAZ
import Derived.Deep.RegionWith
set_option linter.unusedSimpArgs false
set_option linter.unusedVariables false
namespace Go.Proofs.Ytffehmfjcglalaa
set_option linter.unusedVariables false
open Go.RowKit Go.Mem Go.Dk

theorem i64_file {i : Nat} (hi : i < 64) : Go.Mem.I64 (i : Int) := ⟨by omega, by omega⟩
theorem zeroCt (w : World) : (zeroValue 70).run Try.prog w = .ok (.agg #[.slice none 0 0, .int .i64 0]) w := by kernel_rfl

theorem DC.put0 {w w1 : World} {g m : Nat} {V : Nat → Value} {s : S} (h : DC w g m V s) {i : Nat} (hi : i < 64) (hm : MI w1 Try.prog 3 m (dl (entL V s) (i : Int))) (hc : Chg (fun k => k = m) w w1) : DC w1 g m (upd V i (.slice none 0 0)) (put s i [] 0) := by
  refine ⟨h.blk.chg hc h.ne, by rw [← entL_del hi]; exact hm, fun j hj => ?_⟩
  by_cases e : j = i
  · subst e
    exact ⟨upd_same _ _ _, upd_same _ _ _⟩
  · have := h.nil j (by simpa [put, upd_other _ _ e] using hj)
    simpa [put, upd_other _ _ e] using this
theorem DC.put1 {w w1 : World} {g m : Nat} {V : Nat → Value} {s : S} (h : DC w g m V s) {i d : Nat} {l : List UInt8} {v : Value} (hi : i < 64) (hl : l ≠ []) (hm : MI w1 Try.prog 3 m (pt (entL V s) (i : Int) (ctV v d))) (hc : Chg (fun k => k = m) w w1) : DC w1 g m (upd V i v) (put s i l d) := by
  refine ⟨h.blk.chg hc h.ne, by rw [← entL_put hi hl]; exact hm, fun j hj => ?_⟩
  by_cases e : j = i
  · subst e
    exact absurd (by simpa [put, upd_same] using hj) hl
  · have := h.nil j (by simpa [put, upd_other _ _ e] using hj)
    simpa [put, upd_other _ _ e] using this

set_option maxHeartbeats 1000000 in
set_option maxRecDepth 100000 in
theorem dPut_any (g m : Nat) (V : Nat → Value) (s : S) (w : World) (h : DC w g m V s) (i : Nat) (hi : i < 64) (A : Option Addr) (n c : Nat) (l : List UInt8) (hl : l.length = n) (d : Nat) (hd : n = 0 → d = 0) :
    Calls Try.prog 40 #[.pointer (some ⟨g, 0, none⟩), .int .i64 (i : Int), ctV (.slice A n c) d] w fun e w' => e = .returned (.tuple #[]) ∧
      DC w' g m (upd V i (if n = 0 then .slice none 0 0 else .slice A n c)) (put s i l d) ∧ Chg (fun k => k = m) w w' := by
  have hc1 := h.blk.cell 1 (u := .map (some m)) rfl
  have hgl := h.blk.lt
  have HH := Lib.hid h
  have HD := Lib.hid hd
  have HL := Lib.hid hl
  have HB := Lib.hid (And.intro (Nat.lt_of_le_of_lt (entL_len V s) (show 64 < maxLen by decide)) trivial)
  clear h hd hl
  unfold ctV
  by_cases h0 : n = 0
  · subst h0
    go_enter Try.func40, Try.ntmps40
    go_wp2_with (at_delete; refine wpList_dropI _ rfl _ _ rfl keyInt Try.underlying66 rfl (HH.out.map.chg ((Chg.refl (fun _ => False) w).alloc _) (fun h => h)) (i64_file hi) rfl ?_; intro w1 hm1 hch1 hs1)
    refine bodyPost_ret (results_none rfl _ _ _) rfl ?_
    obtain rfl : l = [] := List.eq_nil_of_length_eq_zero HL.out
    obtain rfl : d = 0 := HD.out trivial
    have hc := ((Chg.refl (fun k => k = m) w).alloc _).trans hch1 (fun _ _ h => h)
    exact ⟨rfl, HH.out.put0 hi hm1 hc, hc⟩
  · have hn : ((n : Int) == 0) = false := by simp; omega
    go_enter Try.func40, Try.ntmps40
    go_wp2_with fail
    obtain ⟨w1, hrun, hm1, hch1, hs1⟩ := MI.store (w := (w.alloc (Obj.cells #[Value.slice A n c, Value.int IntKind.i64 ↑d] 70)).drew) (HH.out.map.chg (((Chg.refl (fun _ => False) w).alloc _).drew) (fun h => h)) keyInt Try.underlying66 HB.out.1 (i64_file hi) (.agg #[.slice A n c, .int .i64 (d : Int)])
    have HM := Lib.hid (And.intro hm1 hch1)
    clear hm1 hch1 hs1
    go_region
    go_wp2
    go_end0
    have hl : l ≠ [] := fun e => h0 (by rw [← HL.out, e]; rfl)
    have hc := (((Chg.refl (fun k => k = m) w).alloc (Obj.cells #[Value.slice A n c, Value.int IntKind.i64 ↑d] 70)).drew).trans HM.out.2 (fun _ _ h => h)
    exact ⟨rfl, HH.out.put1 hi hl HM.out.1 hc, hc⟩

/-! ### the number of bytes -/
def lenV : Value → Nat
  | .agg cs => match cs[0]? with | some (Value.slice _ n _) => n | _ => 0
  | _ => 0
theorem sum_files (f : Nat → List UInt8) (g : Nat → Nat) (hg : ∀ i, g i = (f i).length) : ∀ n, ((filesN f n).map g).sum = usedN f n
  | 0 => rfl
  | n + 1 => by
    rw [filesN_succ, List.map_append, List.sum_append, sum_files f g hg n]
    show _ = usedN f n + (f n).length
    cases h : f n with
    | nil => simp
    | cons a r => simp [hg, h]
theorem sum_filter {α : Type} (f : α → Nat) (p : α → Bool) : ∀ L : List α, ((L.filter p).map f).sum ≤ (L.map f).sum
  | [] => Nat.le_refl _
  | a :: r => by
    have := sum_filter f p r
    rw [List.filter_cons]
    split
    · simp only [List.map_cons, List.sum_cons]; omega
    · simp only [List.map_cons, List.sum_cons]; omega
theorem DI.sum {w : World} {g m : Nat} {V : Nat → Value} {s : S} (h : DI w g m V s) : ((entL V s).map (fun p => lenV p.2)).sum = used s := by
  unfold entL
  rw [List.map_map]
  refine sum_files s.f _ (fun i => ?_) 64
  obtain ⟨A, c, hv, _⟩ := (h.rows i).shape
  show lenV (ctV (V i) (s.firm i)) = _
  rw [hv, bs_length]
  rfl
theorem DI.sumto {w : World} {g m : Nat} {V : Nat → Value} {s : S} (h : DI w g m V s) (left : Int → Bool) : sumL (fun p => lenV p.2) left (entL V s) ≤ used s := by
  rw [← h.sum]
  unfold sumL
  exact sum_filter _ _ _

/-- An entry's cells. -/
def mkC (q : Option Addr × Nat × Nat × Nat) : Value := .agg #[.slice q.1 q.2.1 q.2.2.1, .int .i64 (q.2.2.2 : Int)]
theorem DI.inv {w : World} {g m : Nat} {V : Nat → Value} {s : S} (h : DI w g m V s) : ∀ i v, (i, v) ∈ entL V s → ∃ q, v = mkC q := by
  intro i v hm
  obtain ⟨j, h1, h2, h3⟩ := mem_entL.1 hm
  obtain ⟨A, c, hv, _⟩ := (h.rows j).shape
  injection h3 with h3 h4
  exact ⟨(A, _, c, s.firm j), by rw [h4, hv]; rfl⟩

set_option maxHeartbeats 1000000 in
set_option maxRecDepth 100000 in
theorem dUsed_any (g m : Nat) (V : Nat → Value) (s : S) (w : World) (h : DI w g m V s) :
    Calls Try.prog 12 #[.pointer (some ⟨g, 0, none⟩)] w fun e w' => e = .returned (.int .i64 (used s : Int)) ∧ New w w' := by
  have hc1 := h.core.blk.cell 1 (u := .map (some m)) rfl
  have hgl := h.core.blk.lt
  have hle := h.wf.used
  have hro := h.wf.room
  have HH := Lib.hid h
  have HINV := Lib.hid h.inv
  clear h
  go_enter Try.func12, Try.ntmps12
  go_wp2_with (at_range; refine wpList_rangeI _ rfl _ rfl keyInt Try.underlying66 rfl HH.out.core.map ?_; intro w0 hr0 hn0 hs0)
  have HR0 := Lib.hid hr0
  have HN0 := Lib.hid hn0
  clear hr0 hn0
  go_frame
  go_loopw [3] (fun n wr => ∃ left, RI wr Try.prog 3 m w.heap.size (entL V s) left ∧ n = .int .i64 ((sumL (fun p => lenV p.2) left (entL V s) : Nat) : Int) ∧ New w wr) (fun _ wr => wr.rangeLeft m w.heap.size)
  case atStart => exact ⟨_, HR0.out, by rw [sumL_start]; rfl, HN0.out⟩
  case round =>
    obtain ⟨left, hri, rfl, hnw⟩ := hrel
    have HRI := Lib.hid hri
    have HNW := Lib.hid hnw
    have hsum := HH.out.sumto left
    obtain ⟨k, hk⟩ : ∃ k, sumL (fun p => lenV p.2) left (entL V s) = k := ⟨_, rfl⟩
    rw [hk] at hsum
    rw [hk]
    have HK := Lib.hid hk
    clear hri hnw hk
    go_wp2_with (at_next; refine wpList_nextI wr rfl _ rfl keyInt rfl HRI.out mkC HINV.out ?_ ?_)
    · intro hdone
      go_wp2
      go_ret
      have := HH.out.sum
      rw [← sumL_end (f := fun p => lenV p.2) hdone, HK.out] at this
      exact ⟨by rw [this]; rfl, HNW.out⟩
    · intro i A n c d w1 hm hi hl hr1 hc2 hsz hlt hen
      have HM := Lib.hid hm
      have hnx := (Chg.owned HNW.out hc2 (fun j e => by have := HNW.out.size; have := HN0.out.size; omega))
      have hst := sumL_step (f := fun p => lenV p.2) HRI.out.mi.rise hm hl
      have hs2 := HH.out.sumto (fun x => left x && !(x == i))
      rw [HK.out] at hst
      rw [hst] at hs2
      have hln : lenV (mkC (A, n, c, d)) = n := rfl
      rw [hln] at hst hs2
      have HX := Lib.hid (And.intro hr1 (And.intro hnx hst))
      simp only [mkC] at hen ⊢
      clear hm hr1 hc2 hnx hst hln
      go_wp2
      go_roundw
      case rel => exact ⟨_, HX.out.1.chg ((Chg.refl (fun _ => False) w1).alloc _) (fun h => h) (fun h => h), by rw [HX.out.2.2]; go_num, HX.out.2.1.alloc _⟩
      case measure =>
        rw [RI.left_chg HX.out.1 ((Chg.refl (fun _ => False) w1).alloc _) (fun h => h) (fun h => h)]
        exact hlt
end Go.Proofs.Ytffehmfjcglalaa
