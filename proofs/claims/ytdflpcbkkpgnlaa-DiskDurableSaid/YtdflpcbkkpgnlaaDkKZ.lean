/- Contract of disk.Copy. -/
import Derived.Test.YtdflpcbkkpgnlaaB0
import Derived.Test.YtdflpcbkkpgnlaaDkJZ
namespace Go.Proofs.Ytdflpcbkkpgnlaa
set_option linter.unusedVariables false
open Go.RowKit Go.Mem Go.Dk

set_option maxHeartbeats 2000000 in
set_option maxRecDepth 100000 in
theorem dCopy_any (g m : Nat) (V : Nat → Value) (s : S) (w : World) (h : DI w g m V s) :
    Calls Try.prog 29 #[.pointer (some ⟨g, 0, none⟩)] w fun e w' => ∃ g2 m2 V2, e = .returned (.pointer (some ⟨g2, 0, none⟩)) ∧ DI w' g2 m2 V2 s ∧ New w w' ∧ ∀ k, ownD g2 m2 V2 k → w.heap.size ≤ k := by
  have hc0 := h.core.blk.cell 0 (u := .int .i64 (s.room : Int)) rfl
  have hc1 := h.core.blk.cell 1 (u := .map (some m)) rfl
  have hc2 := h.core.blk.cell 2 (u := .bool s.off) rfl
  have hc3 := h.core.blk.cell 3 (u := .bool (decide (0 ≤ s.plan))) rfl
  have hc4 := h.core.blk.cell 4 (u := .int .i64 (max s.plan 0)) rfl
  have hgl := h.core.blk.lt
  have HH := Lib.hid h
  have HINV := Lib.hid h.inv
  obtain ⟨pb, hpb⟩ : ∃ pb, decide (0 ≤ s.plan) = pb := ⟨_, rfl⟩
  obtain ⟨lf, hlf⟩ : ∃ lf, max s.plan 0 = lf := ⟨_, rfl⟩
  rw [hpb] at hc3
  rw [hlf] at hc4
  have HPB := Lib.hid (And.intro hpb hlf)
  clear h hpb hlf
  have hmk : ∀ w : World, (Instr.makeMap 64 none).run Try.prog w = .ok (.map (some w.heap.size)) (w.alloc (.map #[] 0)) := fun w => by kernel_rfl
  go_enter Try.func29, Try.ntmps29
  go_wp2_with fail
  obtain ⟨w0, hw0⟩ : ∃ w0, ((w.alloc (Obj.cells #[Value.int .i64 (s.room : Int), Value.map (some (w.heap.size + 1)), Value.bool s.off, Value.bool pb, Value.int .i64 lf] 66)).alloc (Obj.map #[] 0)) = w0 := ⟨_, rfl⟩
  rw [hw0]
  have hN0 : New w w0 := by rw [← hw0]; exact ((Chg.refl _ w).alloc _).alloc _
  have hz0 : w0.heap.size = w.heap.size + 2 := by rw [← hw0]; simp
  have hB0 : Blk w0 w.heap.size 66 (dCells s (w.heap.size + 1)) := by
    have := (Blk.new w 66 #[Value.int .i64 (s.room : Int), Value.map (some (w.heap.size + 1)), Value.bool s.off, Value.bool pb, Value.int .i64 lf]).alloc (Obj.map #[] 0)
    rw [hw0] at this
    unfold dCells
    rw [HPB.out.1, HPB.out.2]
    exact this
  have hM0 : MI w0 Try.prog 3 (w.heap.size + 1) [] := by
    have := MI.made (w.alloc (Obj.cells #[Value.int .i64 (s.room : Int), Value.map (some (w.heap.size + 1)), Value.bool s.off, Value.bool pb, Value.int .i64 lf] 66)) Try.prog 3
    rw [hw0] at this
    simpa using this
  have HD0 := Lib.hid (show DI w0 w.heap.size (w.heap.size + 1) (fun _ => .slice none 0 0) (Dk.part s (fun i => (lk (entL V s) i).isSome)) from by
    have hnone := part_none HH.out.wf (left := fun i => (lk (entL V s) i).isSome) (fun i hi hf => by rw [lk_entL, if_pos ⟨by omega, by omega, by simpa using hf⟩]; rfl)
    have hfirm := (HH.out.wf.part (fun i => (lk (entL V s) i).isSome)).firm
    have hent : entL (fun _ => Value.slice none 0 0) (Dk.part s (fun i => (lk (entL V s) i).isSome)) = [] := by
      refine List.eq_nil_iff_forall_not_mem.2 (fun p hp => ?_)
      obtain ⟨i, _, h, _⟩ := mem_entL.1 hp
      exact h (hnone i)
    refine ⟨⟨hB0, by rw [hent]; exact hM0, fun i hi => ⟨rfl, by have := hfirm i; rw [hi] at this; simpa using this⟩⟩, fun i => by rw [hnone i]; exact RowV.nil _ _ _, (fun i j k hk _ => by cases hk), HH.out.wf.part _⟩)
  have HN0 := Lib.hid (And.intro hN0 hz0)
  have hb1 := hB0.cell 1 (u := .map (some (w.heap.size + 1))) rfl
  have hgl0 := hB0.lt
  clear hc0 hc1 hc2 hc3 hc4 hgl hw0 hN0 hz0 hB0 hM0
  obtain ⟨w1, hrun, hr1, hn1, hs1⟩ := (HH.out.core.map.chg HN0.out.1 (fun h => h)).range keyInt Try.underlying64
  have HR1 := Lib.hid (And.intro hr1 hn1)
  have HS1 := Lib.hid hs1
  clear hr1 hn1 hs1
  rw [hrun]
  go_wp2_with fail
  obtain ⟨r, hr⟩ : ∃ r, w0.heap.size = r := ⟨_, rfl⟩
  rw [hr]
  have HRR := Lib.hid hr
  go_loopw [] (fun wr => ∃ left V2, RI wr Try.prog 3 m r (entL V s) left ∧ DI wr w.heap.size (w.heap.size + 1) V2 (Dk.part s left) ∧ (∀ k, ownD w.heap.size (w.heap.size + 1) V2 k → w.heap.size ≤ k ∧ k ≠ r) ∧ New w wr) (fun wr => wr.rangeLeft m r)
  case atStart =>
    refine ⟨_, _, HRR.out ▸ HR1.out.1, HD0.out.new HR1.out.2, fun k hk => ?_, HN0.out.1.new HR1.out.2⟩
    have := HN0.out.2
    have := HRR.out
    rcases hk with rfl | rfl | ⟨i, hi⟩
    · omega
    · omega
    · cases hi
  case round =>
    obtain ⟨left, V2, hri, hdi, hown, hnw⟩ := hrel
    have HRI := Lib.hid hri
    have HDI := Lib.hid hdi
    have HOWN := Lib.hid hown
    have HNW := Lib.hid hnw
    have hrw : w.heap.size + 1 < r := by have := HN0.out.2; have := HRR.out; omega
    clear hri hdi hown hnw
    go_wp2_with (at_next; refine wpList_nextI wr rfl _ rfl keyInt rfl HRI.out mkC HINV.out ?_ ?_)
    · intro hdone
      go_wp2
      go_ret
      exact ⟨w.heap.size, w.heap.size + 1, V2, rfl, by have := HDI.out; rwa [part_all hdone] at this, HNW.out, fun k hk => (HOWN.out k hk).1⟩
    · intro i A n c d wn hm hi hl hrn hcn hsz hlt hen
      obtain ⟨k, hk64, hkf, hpair⟩ := mem_entL.1 hm
      injection hpair with hik hcv
      subst hik
      have hcv2 : V k = .slice A n c ∧ s.firm k = d := by
        have h9 : Value.slice A n c = V k ∧ (d : Int) = (s.firm k : Int) := by simpa [mkC, ctV] using hcv
        exact ⟨h9.1.symm, by have := h9.2; omega⟩
      obtain ⟨hv, hd⟩ := hcv2
      have hn : (s.f k).length = n := by
        obtain ⟨A9, c9, h9, _⟩ := HH.out.slice k
        rw [hv] at h9
        injection h9 with _ h9 _
        exact h9.symm
      have hnwn : New w wn := HNW.out.owned hcn (fun j e => by omega)
      have hdn := HDI.out.chg hcn (fun j hj => (HOWN.out j hj).2)
      have hrow := (HH.out.rows k).new hnwn
      rw [hv] at hrow
      have hrd : Rd wn A n (bs (s.f k)) := hrow.rd
      have hlen := HH.out.wf.len k
      rw [hn] at hlen
      have hcell := hdn.core.blk.cell 1 (u := .map (some (w.heap.size + 1))) rfl
      have hgln := hdn.core.blk.lt
      have hrl := hrn.lt
      have HW := Lib.hid hnwn
      have HD := Lib.hid hdn
      have HR := Lib.hid hrd
      have HN := Lib.hid (And.intro hn (And.intro hd hkf))
      have HRN := Lib.hid hrn
      have HLT := Lib.hid hlt
      have HE := Lib.hid (show RowV ((wn.alloc (Obj.cells #[Value.slice A n c, Value.int .i64 (d : Int)] 68)).alloc (Obj.cells #[] 5)) 5 IsU8 (.slice (some ⟨wn.heap.size + 1, 0, none⟩) 0 0) [] from by
        have := Blk.new (wn.alloc (Obj.cells #[Value.slice A n c, Value.int .i64 (d : Int)] 68)) 5 #[]
        rw [World.size_alloc] at this
        exact .inr ⟨wn.heap.size + 1, 0, [], rfl, Nat.zero_le _, rfl, this, fun u hu => by cases hu⟩)
      simp only [mkC] at hen ⊢
      clear hm hcv hv hn hnwn hdn hrow hrd hrn hcn hsz hlt hd hkf
      go_wp2_with (first
        | (at_builtin; refine wpList_appV elemB rfl ⟨0, rfl⟩ rfl _ _ rfl rfl HE.out rfl (src_rd Try.underlying27 (HR.out.new (((Chg.refl _ wn).alloc _).alloc _)) (bs_one _)) (bs_u8 _) (by simp; omega) (by simp; omega) ?_; intro A' c' N' w2 hN' hown2 hg2' hat2'; have hg2 : World.grownBy ((wn.alloc (Obj.cells #[Value.slice A n c, Value.int .i64 (d : Int)] 68)).alloc (Obj.cells #[] 5)) w2 (some (wn.heap.size + 1)) := hg2'; have hat2 : blk A' = some (wn.heap.size + 1) ∨ ∃ k, blk A' = some k ∧ wn.heap.size < k := hat2'.imp (fun e => e) (fun e => ⟨_, e.1, by simp; omega⟩); clear hg2' hat2'; have hbx := ((Blk.new wn 68 #[Value.slice A n c, Value.int .i64 (d : Int)]).alloc (Obj.cells #[] 5)).grown hg2 (fun e => by injection e with e; omega); have hx0 := hbx.cell 0 rfl; have hx1 := hbx.cell 1 rfl; have hxf := hbx.frozen 0; have hn2 : New wn w2 := (((Chg.refl (fun _ => False) wn).alloc _).alloc _).grown hg2 (fun k hk hlt => by injection hk with hk; omega); have hy := hn2.cell hcell (fun h => h); have hg9 := Nat.lt_of_lt_of_le hgln hn2.size; have hxl := hbx.lt; have HBX := Lib.hid hbx; have HO2 := Lib.hid hown2; have HG2 := Lib.hid (And.intro hg2 (And.intro hat2 hn2)); have HN' := Lib.hid hN'; clear hbx hown2 hg2 hat2 hN' hn2)
        | (at_mapUpdate; refine wpList_storeI _ rfl _ _ _ rfl keyInt Try.underlying64 rfl (HD.out.core.map.chg (Chg.setCell_new HG2.out.2.2 (show wn.heap.size ≤ wn.heap.size from Nat.le_refl _) _) (fun h => h)) (Nat.lt_of_le_of_lt (entL_len V2 _) (show 64 < maxLen by decide)) hi rfl rfl ?_; intro w3 hm3 hc3 hs3))
      have hm3' : MI w3 Try.prog 3 (w.heap.size + 1) (pt (entL V2 (Dk.part s left)) (k : Int) (ctV (.slice A' N' c') d)) := hm3
      have hck : Chg (fun j => j = w.heap.size + 1) wn w3 := (Chg.setCell_new (HG2.out.2.2.mono (fun _ _ hf => hf.elim)) (Nat.le_refl _) _).trans hc3 (fun j _ e => e)
      have hdc := HD.out.core.put1 hk64 HN.out.2.2 hm3' hck
      rw [← HN.out.2.1, ← part_step hl] at hdc
      have hrow3 : RowV w3 5 IsU8 (.slice A' N' c') (bs (s.f k)) := by
        have h1 := HO2.out
        rw [List.nil_append] at h1
        have hne1 : blk A' ≠ some wn.heap.size := by
          rcases HG2.out.2.1 with e | ⟨k9, e, hk9⟩
          · rw [e]; intro e2; injection e2 with e2; omega
          · rw [e]; intro e2; injection e2 with e2; omega
        have hne2 : blk A' ≠ some (w.heap.size + 1) := by
          rcases HG2.out.2.1 with e | ⟨k9, e, hk9⟩
          · rw [e]; intro e2; injection e2 with e2; omega
          · rw [e]; intro e2; injection e2 with e2; omega
        have h2 := h1.chg ((Chg.refl (fun j => j = wn.heap.size) w2).setCell (p := ⟨wn.heap.size, 0, none⟩) (fun _ => rfl) (.slice A' N' c')) (fun j hj e => hne1 (by subst e; exact hj))
        exact h2.chg hc3 (fun j hj e => hne2 (by subst e; exact hj))
      have hat : ∀ j, blkV (.slice A' N' c') = some j → wn.heap.size ≤ j := fun j hj => by
        have hj : blk A' = some j := hj
        rcases HG2.out.2.1 with e | ⟨k9, e, hk9⟩
        · rw [e] at hj; injection hj with hj; omega
        · rw [e] at hj; injection hj with hj; omega
      have hwf := HH.out.wf.part (fun x => left x && !(x == (k : Int)))
      rw [part_step hl] at hwf hdc
      obtain ⟨hfin, hfd⟩ := HD.out.put_row (hck.mono (fun j _ e => .inr (.inl e))) hdc hrow3 (fun j hj => .inr (hat j hj)) hwf
      rw [← part_step hl] at hfin
      have hml := HH.out.core.map.lt
      have n1 : ¬ (fun j => j = w.heap.size + 1) m := fun e => by have e : m = w.heap.size + 1 := e; omega
      have n2 : ¬ (fun j => j = w.heap.size + 1) r := fun e => by have e : r = w.heap.size + 1 := e; omega
      have HFIN := Lib.hid (And.intro hfin (And.intro (HRN.out.chg hck n1 n2) (And.intro (show ∀ j, ownD w.heap.size (w.heap.size + 1) (upd V2 k (.slice A' N' c')) j → w.heap.size ≤ j ∧ j ≠ r from fun j hj => by
        rcases ownD_upd hj with h1 | h1
        · exact HOWN.out j h1
        · have := hat j h1; exact ⟨by omega, by omega⟩) (And.intro (HW.out.owned hck (fun j e => by have e : j = w.heap.size + 1 := e; omega)) (show w3.rangeLeft m r < wr.rangeLeft m r from by rw [RI.left_chg HRN.out hck n1 n2]; exact HLT.out)))))
      clear hm3 hm3' hck hdc hrow3 hat hwf hfin hfd hc3 hs3
      go_roundw
      case rel => exact ⟨_, _, _, _, _, _, _, _, _, _, _, _, _, _, _, _, ⟨_, _, HFIN.out.2.1, HFIN.out.1, HFIN.out.2.2.1, HFIN.out.2.2.2.1⟩, rfl⟩
      case measure => exact HFIN.out.2.2.2.2
end Go.Proofs.Ytdflpcbkkpgnlaa
