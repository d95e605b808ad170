/- Contracts of refuterref36: Die, Open, New. -/
import Derived.Test.YtbmplfhcdkeooaaRpCZ
set_option linter.unusedSimpArgs false
set_option linter.unusedVariables false
namespace Go.Proofs.Ytbmplfhcdkeooaa
set_option linter.unusedVariables false
open Go.RowKit Go.Mem Go.Pl

theorem elemBools : Elem Try.prog 86 4 (.bool false) 1 := Elem.mk' Try.underlying86 (by kernel_rfl) rfl
section
variable {w w' : World} {h : Nat} {al jv tv : Value} {T U : Nat → Prop} {s : S}
set_option maxHeartbeats 4000000 in
set_option maxRecDepth 100000 in
theorem rDie_any (hr : RI w h al jv tv T s) (hw : WF s) (hN : s.tries.length ≤ 1000000) (worker tick : Int) : Calls Try.prog 25 #[.pointer (some ⟨h, 0, none⟩), .int .i64 worker, .int .i64 tick] w fun e w' => e = .returned (.int .i64 (Pl.die s worker tick).2) ∧ Ret w w' h al jv tv T (Pl.die s worker tick).1 := by
  have hal := hw.al.2
  have HR := Lib.hid hr
  have HQ := Lib.hid (rCheck_any hr hal worker tick)
  by_cases hc : check s worker tick = 0
  case neg =>
    rw [die_bad hc]
    obtain ⟨C, hC⟩ : ∃ C, check s worker tick = C := ⟨_, rfl⟩
    rw [hC] at hc HQ ⊢
    have hcb : (C != 0) = true := by simpa using hc
    have hbl := hr.blk.lt
    clear hr hc hC
    go_enter Try.func25, Try.ntmps25
    go_wp2_with fail
    refine HQ.out.mono ?_
    rintro e w1 ⟨rfl, hw1⟩
    subst hw1
    go_wp2_with fail
    go_ret
    exact ⟨rfl, HR.out, Chg.refl _ _⟩
  obtain ⟨hwr, htr, _⟩ := check_zero hc
  rw [hc] at HQ
  obtain ⟨A, c, hv⟩ := hr.shape.1
  obtain ⟨A4, c4, hv4⟩ := hr.shape.2.2
  obtain ⟨b0, _, b2, _, b4⟩ := hr.cells
  have hbl := hr.blk.lt
  have hbf := hr.blk.frozen 2
  obtain ⟨n, hn⟩ : ∃ n, s.alive.length = n := ⟨_, rfl⟩
  obtain ⟨m, hm⟩ : ∃ m, s.tries.length = m := ⟨_, rfl⟩
  obtain ⟨k, rfl⟩ : ∃ k : Nat, worker = (k : Int) := ⟨worker.toNat, by omega⟩
  have hkn : k < n := by omega
  obtain ⟨b, hb⟩ : ∃ b, s.alive[k]? = some b := ⟨_, List.getElem?_eq_getElem (by omega)⟩
  obtain ⟨ga, c', hv2, ka, kf⟩ := hr.al_at hb
  have hvv := hv2
  rw [hn] at hv2
  have hgd : s.alive.getD ((k : Int)).toNat false = b := by rw [Int.toNat_natCast, List.getD_eq_getElem?_getD, hb]; rfl
  cases b with
  | false =>
    rw [die_dead hc hgd]
    subst hv2
    clear hr hn hm hb hgd hvv hc hv hw hal hN
    go_enter Try.func25, Try.ntmps25
    go_wp2_with fail
    refine HQ.out.mono ?_
    rintro e w1 ⟨rfl, hw1⟩
    subst hw1
    go_wp2_with fail
    go_ret
    exact ⟨rfl, HR.out, Chg.refl _ _⟩
  | true =>
    rw [die_ok hc hgd]
    have hown : al.ownBlock = some ga := by rw [hv2]; rfl
    have hne : ga ≠ h := fun e => hr.ne.1.1 (by rw [hown, e])
    have hS1 := hr.setTick tick
    have hS2 := hS1.setAl (k := k) hvv (by show k < s.alive.length; omega) false
    have hC2 : Chg (ownR h al jv tv) w ((w.setCell ⟨h, 2, none⟩ (.int .i64 tick)).setCell ⟨ga, k, none⟩ (.bool false)) :=
      ((chg_one w h 2 (.int .i64 tick)).mono (T := ownR h al jv tv) (fun q _ e => .inl e)).setCell (p := ⟨ga, k, none⟩) (fun _ => .inr (.inl hown)) _
    obtain ⟨w2, hw2⟩ : ∃ w2, (w.setCell ⟨h, 2, none⟩ (.int .i64 tick)).setCell ⟨ga, k, none⟩ (.bool false) = w2 := ⟨_, rfl⟩
    rw [hw2] at hS2 hC2
    have HS := Lib.hid (And.intro hS2 hC2)
    have HWF := Lib.hid hw
    rw [hm] at hv4 hN
    have HM := Lib.hid hm
    subst hv2 hv4
    obtain ⟨_, _, _, _, b4'⟩ := hS2.cells
    have hbl2 := hS2.blk.lt
    clear hr hn hm hb hgd hvv hc hv hw hal hown hS1 hS2 hC2
    go_enter Try.func25, Try.ntmps25
    go_wp2_with fail
    refine HQ.out.mono ?_
    rintro e w1 ⟨rfl, hw1⟩
    subst hw1
    go_wp2_with fail
    go_loopw [8] (fun v wr => ∃ j : Nat, v = .int .i64 (j : Int) ∧ j ≤ m ∧ Hid (Ret w1 wr h (.slice (some ⟨ga, 0, none⟩) n c') jv (.slice A4 m c4) T { s with tick := tick, alive := s.alive.set k false, tries := loseTo (k : Int) s.tries j })) (fun v _ => m - (intOf v).toNat)
    case atStart =>
      refine ⟨0, rfl, by omega, Lib.hid ?_⟩
      rw [loseTo_zero]
      exact HS.out
    case round =>
      obtain ⟨j, rfl, hj, hh⟩ := hrel
      obtain ⟨_, _, _, _, b4r⟩ := hh.out.1.cells
      have hblr := hh.out.1.blk.lt
      by_cases hjm : j < m
      · obtain ⟨y, hy⟩ : ∃ y, s.tries[j]? = some y := ⟨_, List.getElem?_eq_getElem (by have := HM.out; omega)⟩
        have hy2 := loseTo_at (w := (k : Int)) hy
        obtain ⟨gt, ct, hvt, _, _, k2, _, _, kft⟩ := hh.out.1.try_at hy2
        have hvt9 := hvt
        dsimp only at hvt
        rw [loseTo_len, HM.out] at hvt
        injection hvt with hv1 hv2 hv3
        subst hv1 hv3
        obtain ⟨yw, hyw⟩ : ∃ z, y.worker = z := ⟨_, rfl⟩
        rw [hyw] at k2
        by_cases hyk : yw = (k : Int)
        · have b_1 : (yw == (k : Int)) = true := by rw [hyk]; simp
          have HMK := Lib.hid (show Ret w1 (wr.setCell ⟨gt, j * 5 + 4, none⟩ (.bool true)) h (.slice (some ⟨ga, 0, none⟩) n c') jv (.slice (some ⟨gt, 0, none⟩) m c4) T { s with tick := tick, alive := s.alive.set k false, tries := loseTo (k : Int) s.tries (j + 1) } from by
            refine ⟨?_, hh.out.2.setCell (p := ⟨gt, j * 5 + 4, none⟩) (fun _ => .inr (.inr (.inr rfl))) _⟩
            have := hh.out.1.mark hvt9 hy2
            rw [← loseTo_hit hy (hyw.trans hyk)]
            exact this)
          clear hy hy2 hyw hyk hh hvt9 hv2
          go_wp2_with fail
          exact ⟨⟨j + 1, rfl, by omega, HMK⟩, by simp [intOf]; omega⟩
        · have b_1 : (yw == (k : Int)) = false := by rw [beq_eq_false_iff_ne]; exact hyk
          have HMK := Lib.hid (show Ret w1 wr h (.slice (some ⟨ga, 0, none⟩) n c') jv (.slice (some ⟨gt, 0, none⟩) m c4) T { s with tick := tick, alive := s.alive.set k false, tries := loseTo (k : Int) s.tries (j + 1) } from by
            rw [loseTo_skip hy (fun e => hyk (hyw.symm.trans e))]
            exact hh.out)
          clear hy hy2 hyw hyk hh hvt9 hv2
          go_wp2_with fail
          exact ⟨⟨j + 1, rfl, by omega, HMK⟩, by simp [intOf]; omega⟩
      · obtain rfl : j = m := by omega
        have HE := Lib.hid (show Ret w1 wr h (.slice (some ⟨ga, 0, none⟩) n c') jv (.slice A4 j c4) T { s with tick := tick, alive := s.alive.set ((k : Int)).toNat false, tries := s.tries.map (lose (k : Int)) } from by
          rw [← loseTo_all, HM.out, Int.toNat_natCast]
          exact hh.out)
        clear hh
        go_wp2_with fail
        go_ret
        exact ⟨rfl, HE.out⟩
/-- The open tasks among the first i. -/
def opensR (s : S) (i : Nat) : List Int := ((s.jobs.take i).filter (fun j => j.ans.isNone)).map (·.id)
theorem opensR_succ {i : Nat} {j : Job} (hj : s.jobs[i]? = some j) : opensR s (i + 1) = if j.ans.isSome then opensR s i else opensR s i ++ [j.id] := by
  unfold opensR
  rw [List.take_add_one, hj, List.filter_append, List.map_append]
  cases ha : j.ans with
  | none => simp [ha]
  | some a => simp [ha]
theorem opensR_len (s : S) (i : Nat) : (opensR s i).length ≤ i := by
  unfold opensR
  rw [List.length_map]
  have h1 := List.length_filter_le (fun j : Job => j.ans.isNone) (s.jobs.take i)
  have h2 := List.length_take_le i s.jobs
  omega
theorem opensR_all (s : S) : opensR s s.jobs.length = opens s := by unfold opensR opens; rw [List.take_length]
set_option maxHeartbeats 4000000 in
set_option maxRecDepth 100000 in
theorem rOpen_any (hr : RI w h al jv tv T s) (hN : s.jobs.length ≤ 1024) : Calls Try.prog 52 #[.pointer (some ⟨h, 0, none⟩)] w fun e w' => ∃ A c, e = .returned (.slice A (opens s).length c) ∧ w'.ownsRow w.heap.size 3 1 (.slice A (opens s).length c) (opens s).length (is (opens s)) ∧ New w w' := by
  have HR := Lib.hid hr
  obtain ⟨A3, c3, hv3, _⟩ := hr.shape.2.1
  have hbl := hr.blk.lt
  obtain ⟨n, hn⟩ : ∃ n, s.jobs.length = n := ⟨_, rfl⟩
  have hall := opensR_all s
  rw [hn] at hv3 hN hall
  rw [← hall]
  have HNN := Lib.hid hn
  subst hv3
  clear hr hn hall
  go_enter Try.func52, Try.ntmps52
  go_wp2_with fail
  go_loopw [3, 4] (fun v iv wr => ∃ (i : Nat) (A : Option Addr) (m c : Nat), iv = .int .i64 (i : Int) ∧ i ≤ n ∧ v = .slice A m c ∧ m ≤ i ∧ Hid ((opensR s i).length = m ∧ wr.ownsRow w.heap.size 3 1 (.slice A m c) m (is (opensR s i)) ∧ New w wr)) (fun _ iv _ => n - (intOf iv).toNat)
  case atStart => exact ⟨0, none, 0, 0, rfl, by omega, rfl, by omega, Lib.hid ⟨rfl, World.ownsRow_nil _ _ _ _, Chg.refl _ _⟩⟩
  case round =>
    obtain ⟨i, A, m, c, rfl, hi, rfl, hm, hh⟩ := hrel
    have hrw := HR.out.new hh.out.2.2
    obtain ⟨_, _, _, b3, _⟩ := hrw.cells
    have hbw := hrw.blk.lt
    by_cases hlt : i < n
    · obtain ⟨j, hj⟩ : ∃ j, s.jobs[i]? = some j := ⟨_, List.getElem?_eq_getElem (by rw [HNN.out]; exact hlt)⟩
      obtain ⟨gj, c', bv, av, hv, _, _, k0, _, _, k3, _⟩ := hrw.jobs.at_ hj
      rw [HNN.out] at hv
      injection hv with hv1 hv2 hv3
      subst hv1 hv3
      obtain ⟨jid, hjid⟩ : ∃ x, j.id = x := ⟨_, rfl⟩
      rw [hjid] at k0
      have hs := opensR_succ hj
      rw [hjid] at hs
      cases ha : j.ans.isSome with
      | true =>
        rw [ha] at k3 hs
        rw [if_pos rfl] at hs
        have HS := Lib.hid hs
        clear hj hjid hv2 hrw ha hs
        go_wp2_with fail
        exact ⟨⟨i + 1, A, m, c, rfl, by omega, rfl, by omega, Lib.hid ⟨by rw [HS.out]; exact hh.out.1, by rw [HS.out]; exact hh.out.2.1, hh.out.2.2⟩⟩, by simp [intOf]; omega⟩
      | false =>
        rw [ha] at k3 hs
        rw [if_neg (by simp)] at hs
        have HS := Lib.hid hs
        obtain ⟨w2, hw2⟩ : ∃ w2, wr.alloc (.cells #[.int .i64 jid] 3) = w2 := ⟨_, rfl⟩
        obtain ⟨B, hB⟩ : ∃ B, wr.heap.size = B := ⟨_, rfl⟩
        have hn2 : New wr w2 := by rw [← hw2]; exact (Chg.refl _ _).alloc _
        have hr2 : Rd w2 (some ⟨B, 0, none⟩) 1 [.int .i64 jid] := by rw [← hw2, ← hB]; exact Rd.one
        have hnw : New w w2 := hh.out.2.2.trans hn2 (fun _ _ h => h)
        have ho2 := ownN_chg hh.out.2.1 hn2 (fun _ _ h => h)
        have HO2 := Lib.hid ho2
        have HR2 := Lib.hid hr2
        have HN2 := Lib.hid hnw
        clear hj hjid hv2 hrw ha hs hn2 hr2 hnw ho2
        go_wp2_with (at_builtin; refine wpList_app (base := w.heap.size) elemInts rfl _ _ rfl rfl HO2.out rfl HR2.out (by simp [Value.oneCell']) (by simp only [maxLen]; omega) (by omega) HN2.out.size ?_; intro A14 c14 w14 hown14 hg14 hat14; have HO14 := Lib.hid (And.intro hown14 hg14); clear hown14 hg14 hat14)
        refine ⟨⟨i + 1, A14, m + 1, c14, rfl, by omega, rfl, by omega, Lib.hid ⟨by rw [HS.out, List.length_append, hh.out.1]; rfl, ?_, ?_⟩⟩, by simp [intOf]; omega⟩
        · have e : is (opensR s (i + 1)) = is (opensR s i) ++ [.int .i64 jid] := by rw [HS.out]; simp [is]
          rw [e]
          exact HO14.out.1
        · exact HN2.out.grown HO14.out.2 (fun k hk hlt => by have := (ownN_lt HO2.out (show (Value.slice A m c).ownBlock = some k by rw [ownBlock_slice]; exact hk)).1; omega)
    · obtain rfl : i = n := by omega
      clear hrw
      go_wp2_with fail
      go_ret
      refine ⟨A, c, ?_, ?_, hh.out.2.2⟩
      · show Ending.returned (.slice A m c) = _
        rw [hh.out.1]
      · have := hh.out.2.1
        rw [hh.out.1]
        exact this
/-- What New makes. -/
theorem rNew_bad (a b : Int) (hbad : a < 1 ∨ 8 < a ∨ b < 1 ∨ 1099511627776 < b) : Calls Try.prog 17 #[.int .i64 a, .int .i64 b] w fun e w' => e = .returned (.pointer none) ∧ w' = w := by
  by_cases h1 : a < 1
  · go_enter Try.func17, Try.ntmps17
    go_wp2_with fail
    go_ret
    exact ⟨rfl, rfl⟩
  by_cases h2 : 8 < a
  · go_enter Try.func17, Try.ntmps17
    go_wp2_with fail
    go_ret
    exact ⟨rfl, rfl⟩
  by_cases h3 : b < 1
  · go_enter Try.func17, Try.ntmps17
    go_wp2_with fail
    go_ret
    exact ⟨rfl, rfl⟩
  have h4 : 1099511627776 < b := by omega
  go_enter Try.func17, Try.ntmps17
  go_wp2_with fail
  go_ret
  exact ⟨rfl, rfl⟩
set_option maxHeartbeats 4000000 in
set_option maxRecDepth 100000 in
theorem rNew_any (n : Nat) (timeout : Int) (hn : 1 ≤ n ∧ n ≤ 8) (ht : 1 ≤ timeout ∧ timeout ≤ 1099511627776) : Calls Try.prog 17 #[.int .i64 (n : Int), .int .i64 timeout] w fun e w' => ∃ h al, e = .returned (.pointer (some ⟨h, 0, none⟩)) ∧ RI w' h al (.slice none 0 0) (.slice none 0 0) (fun _ => False) (new n timeout) ∧ New w w' ∧ ∀ k, ownR h al (.slice none 0 0) (.slice none 0 0) k → w.heap.size ≤ k := by
  obtain ⟨h, hh⟩ : ∃ h, w.heap.size = h := ⟨_, rfl⟩
  obtain ⟨w0, hw0⟩ : ∃ w0, w.alloc (.cells #[.slice none 0 0, .int .i64 timeout, .int .i64 0, .slice none 0 0, .slice none 0 0] 104) = w0 := ⟨_, rfl⟩
  have hn0 : New w w0 := by rw [← hw0]; exact (Chg.refl _ _).alloc _
  have hb0 : Blk w0 h 104 #[.slice none 0 0, .int .i64 timeout, .int .i64 0, .slice none 0 0, .slice none 0 0] := by rw [← hw0, ← hh]; exact Blk.new _ _ _
  have H0 := Lib.hid (And.intro hb0 hn0)
  have HHS := Lib.hid hh
  clear hn0 hb0
  go_enter Try.func17, Try.ntmps17
  go_wp2_with fail
  clear hh
  go_loopw [6] (fun v wr => ∃ (i : Nat) (A : Option Addr) (c : Nat), v = .int .i64 (i : Int) ∧ i ≤ n ∧ Hid (Blk wr h 104 #[.slice A i c, .int .i64 timeout, .int .i64 0, .slice none 0 0, .slice none 0 0] ∧ wr.ownsRow (h + 1) 4 1 (.slice A i c) i (boolsR (List.replicate i true)) ∧ New w wr)) (fun v _ => n - (intOf v).toNat)
  case atStart => exact ⟨0, none, 0, rfl, by omega, Lib.hid ⟨H0.out.1, World.ownsRow_nil _ _ _ _, H0.out.2⟩⟩
  case round =>
    obtain ⟨i, A, c, rfl, hi, hx⟩ := hrel
    have c0 := hx.out.1.cell 0 (u := .slice A i c) rfl
    have hbl := hx.out.1.lt
    by_cases hlt : i < n
    · obtain ⟨w2, hw2⟩ : ∃ w2, wr.alloc (.cells #[.bool true] 4) = w2 := ⟨_, rfl⟩
      obtain ⟨B, hB⟩ : ∃ B, wr.heap.size = B := ⟨_, rfl⟩
      have hn2 : New wr w2 := by rw [← hw2]; exact (Chg.refl _ _).alloc _
      have hr2 : Rd w2 (some ⟨B, 0, none⟩) 1 [.bool true] := by rw [← hw2, ← hB]; exact Rd.one
      have ho2 := ownN_chg hx.out.2.1 hn2 (fun _ _ h => h)
      have hnw : New w w2 := hx.out.2.2.trans hn2 (fun _ _ h => h)
      have hb2 := hx.out.1.chg hn2 (fun h => h)
      have HO2 := Lib.hid ho2
      have HR2 := Lib.hid hr2
      have HN2 := Lib.hid hnw
      have HB2 := Lib.hid hb2
      have hsz : h + 1 ≤ w2.heap.size := by have := hb2.lt; omega
      have HSZ := Lib.hid hsz
      clear hn2 hr2 ho2 hnw hb2 hsz
      go_wp2_with (at_builtin; refine wpList_app (base := h + 1) elemBools rfl _ _ rfl rfl HO2.out rfl HR2.out (by simp [Value.oneCell']) (by simp only [maxLen]; omega) (by omega) HSZ.out ?_; intro A14 c14 w14 hown14 hg14 hat14; (have hc14 : Chg (fun q => blk A = some q) w2 w14 := (Chg.refl (fun q => blk A = some q) w2).grown hg14 (fun k hk _ => hk)); (have hne14 : ¬ blk A = some h := fun e => by have := (ownN_lt HO2.out (show (Value.slice A i c).ownBlock = some h by rw [ownBlock_slice]; exact e)).1; omega); (have hb14 := HB2.out.chg hc14 hne14); have c14' := hb14.cell 0 (u := .slice A i c) rfl; have f14 := hb14.frozen 0; have l14 := hb14.lt; have HO14 := Lib.hid (And.intro hown14 (And.intro hc14 hb14)); clear hown14 hg14 hat14 hc14 hb14 hne14)
      have hhs := HHS.out
      refine ⟨⟨i + 1, A14, c14, rfl, by omega, Lib.hid ⟨HO14.out.2.2.set_ 0 _, ?_, ?_⟩⟩, by simp [intOf]; omega⟩
      · have e : boolsR (List.replicate (i + 1) true) = boolsR (List.replicate i true) ++ [.bool true] := by rw [List.replicate_succ']; simp [boolsR]
        rw [e]
        exact ownN_chg HO14.out.1 (chg_one w14 h 0 _) (fun k hk e => by have := (ownN_lt HO14.out.1 hk).1; omega)
      · exact chg_setNew (HN2.out.trans HO14.out.2.1 (fun k hk e => by have := (ownN_lt HO2.out (show (Value.slice A i c).ownBlock = some k by rw [ownBlock_slice]; exact e)).1; omega)) (by omega) _
    · obtain rfl : i = n := by omega
      go_wp2_with fail
      go_ret
      refine ⟨h, .slice A i c, rfl, ⟨hx.out.1, ?_, ⟨[], ⟨World.ownsRow_nil _ _ _ _, fun y hy => by simp at hy⟩, rfl, fun q j hj => by simp [new] at hj⟩, World.ownsRow_nil _ _ _ _, fun k hk => hk.elim⟩, hx.out.2.2, fun k hk => ?_⟩
      · show wr.ownsRow 0 4 1 (.slice A i c) (List.replicate i true).length (boolsR (List.replicate i true))
        rw [List.length_replicate]
        exact ownN_base hx.out.2.1 (Nat.zero_le _)
      · have := HHS.out
        rcases hk with rfl | hk | hk | hk
        · omega
        · have := (ownN_lt hx.out.2.1 hk).1; omega
        · cases hk
        · cases hk
end
end Go.Proofs.Ytbmplfhcdkeooaa
