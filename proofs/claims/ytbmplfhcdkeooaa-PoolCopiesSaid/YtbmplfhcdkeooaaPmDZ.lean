/- A pool and the model at one state agree. -/
import Derived.Test.YtbmplfhcdkeooaaG6
import Derived.Test.YtbmplfhcdkeooaaSameIZ
import Derived.Test.YtbmplfhcdkeooaaG7
import Derived.Test.YtbmplfhcdkeooaaBase
set_option linter.unusedSimpArgs false
set_option linter.unusedVariables false
namespace Go.Proofs.Ytbmplfhcdkeooaa
set_option linter.unusedVariables false
open Go.RowKit Go.Mem Go.Pl

def dn (l : List Job) : List (Int × Ans) := l.filterMap (fun j => j.ans.map (fun a => (j.id, a)))
theorem dn_split (p q : List Job) (j : Job) (a : Ans) (ha : j.ans = some a) : (dn (p ++ j :: q))[(dn p).length]? = some (j.id, a) := by
  unfold dn
  rw [List.filterMap_append, List.getElem?_append_right (Nat.le_refl _), Nat.sub_self, List.filterMap_cons]
  simp [ha]
theorem dn_at {l : List Job} {i : Nat} {j : Job} {a : Ans} (hj : l[i]? = some j) (ha : j.ans = some a) : (dn l)[(dn (l.take i)).length]? = some (j.id, a) := by
  obtain ⟨hlt, e⟩ := List.getElem?_eq_some_iff.1 hj
  have h := dn_split (l.take i) (l.drop (i + 1)) j a ha
  rw [← e, List.getElem_cons_drop, List.take_append_drop, e] at h
  exact h
theorem dn_step {l : List Job} {i : Nat} {j : Job} (hj : l[i]? = some j) : (dn (l.take (i + 1))).length = (dn (l.take i)).length + (if j.ans.isSome then 1 else 0) := by
  rw [List.take_add_one, hj]
  unfold dn
  rw [List.filterMap_append, List.length_append]
  cases h : j.ans <;> simp [h]

set_option maxHeartbeats 4000000 in
set_option maxRecDepth 100000 in
theorem agrees_any {U X : Nat → Prop} {w wr : World} {g h : Nat} {s : S} (hp : PM U X w g h s s wr) :
    Calls Try.prog 20 #[.pointer (some ⟨g, 0, none⟩), .pointer (some ⟨h, 0, none⟩)] wr fun e w' => e = .returned (.bool true) ∧ New wr w' := by
  have hwf := hp.wf
  have hjl : s.jobs.length ≤ 1024 := hwf.len
  have hol : (opens s).length ≤ 1024 := by unfold opens; rw [List.length_map]; exact Nat.le_trans (List.length_filter_le _ _) hjl
  have hdl : (dones s).length ≤ 1024 := Nat.le_trans (List.length_filterMap_le _ _) hjl
  have HDD := Lib.hid (show dones s = dn s.jobs from rfl)
  have HWF := Lib.hid hwf
  have HP := Lib.hid hp
  obtain ⟨ol, hol'⟩ : ∃ ol, (opens s).length = ol := ⟨_, rfl⟩
  obtain ⟨dl, hdl'⟩ : ∃ dl, (dones s).length = dl := ⟨_, rfl⟩
  obtain ⟨jl, hjl'⟩ : ∃ jl, s.jobs.length = jl := ⟨_, rfl⟩
  rw [hol'] at hol
  rw [hdl'] at hdl
  rw [hjl'] at hjl
  have HOL := Lib.hid hol'
  have HDL := Lib.hid hdl'
  have HJL := Lib.hid hjl'
  clear hp hwf hol' hdl' hjl'
  go_enter Try.func20, Try.ntmps20
  go_wp2_with fail
  refine HP.out.pOpen.mono ?_
  rintro e w1 ⟨A1, c1, rfl, ho1, hn1⟩
  rw [HOL.out] at ho1 ⊢
  have HO1 := Lib.hid ho1
  have HN1 := Lib.hid hn1
  clear ho1 hn1
  go_wp2_with fail
  refine ((HP.out.new HN1.out).mOpen HWF.out).mono ?_
  rintro e w2 ⟨A2, c2, rfl, ho2, hn2⟩
  rw [HOL.out] at ho2 ⊢
  have HO2 := Lib.hid ho2
  have HN2 := Lib.hid (HN1.out.trans hn2 (fun _ _ h => h))
  have HR1 := Lib.hid ((Rd.of_own HO1.out).new hn2)
  clear ho2 hn2
  go_wp2_with fail
  refine (sameInts_any A1 A2 ol ol c1 c2 (opens s) (opens s) w2 HR1.out (Rd.of_own HO2.out) (by omega) (by omega)).mono ?_
  rintro e w3 ⟨rfl, q, rfl⟩
  rw [show decide (opens s = opens s) = true by simp]
  have HN3 := Lib.hid (show New wr (w2.drewN q) from HN2.out.trans ((Chg.refl _ _).drewN q) (fun _ _ h => h))
  clear HO1 HO2 HR1
  go_wp2_with fail
  refine ((HP.out.new HN3.out).pDone).mono ?_
  rintro e w4 ⟨A4, c4, rfl, ho4, hn4⟩
  rw [HDL.out] at ho4 ⊢
  have HO4 := Lib.hid ho4
  have HN4 := Lib.hid (HN3.out.trans hn4 (fun _ _ h => h))
  clear ho4 hn4
  go_wp2_with fail
  go_loopw [6, 7] (fun k i wl => ∃ (kN iN : Nat), k = .int .i64 (kN : Int) ∧ i = .int .i64 (iN : Int) ∧ iN ≤ jl ∧ kN ≤ dl ∧ Hid (kN = (dn (s.jobs.take iN)).length ∧ New w4 wl)) (fun _ i _ => jl - (intOf i).toNat)
  case atStart => exact ⟨0, 0, rfl, rfl, by omega, by omega, Lib.hid ⟨rfl, Chg.refl _ _⟩⟩
  case round =>
    obtain ⟨kN, i, rfl, rfl, hi, hk, hh⟩ := hrel
    obtain ⟨al, jv, tv, TR, hrf, _⟩ := (HP.out.new (HN4.out.trans hh.out.2 (fun _ _ h => h))).rf
    obtain ⟨m0, m1, m2, m3, m4⟩ := hrf.cells
    have hhl := hrf.blk.lt
    by_cases hlt : i < jl
    · obtain ⟨j, hj⟩ : ∃ j, s.jobs[i]? = some j := ⟨_, List.getElem?_eq_getElem (by have := HJL.out; omega)⟩
      obtain ⟨gj, cj, bv, av, hv, hbv, hav, q0, q1, q2, q3, q4, q5, q6, _⟩ := hrf.jobs.at_ hj
      obtain ⟨Ax, cx, rfl, _⟩ := hbv
      obtain ⟨Ay, cy, rfl, hry, _, hcy, _⟩ := hav
      obtain ⟨bl, hbl⟩ : ∃ bl, j.body.length = bl := ⟨_, rfl⟩
      obtain ⟨yl, hyl⟩ : ∃ yl, (ansB j).length = yl := ⟨_, rfl⟩
      rw [hbl] at q1
      rw [hyl] at q6 hry
      rw [HJL.out] at hv
      subst hv
      have hlt2 : (i : Int) < (jl : Int) := by omega
      have hstep := dn_step hj
      have hn := HN4.out.trans hh.out.2 (fun _ _ h => h)
      cases ha : j.ans with
      | none =>
        rw [ha] at q3 hstep
        have HK := Lib.hid (show kN = (dn (s.jobs.take (i + 1))).length by rw [hstep]; exact hh.out.1)
        obtain ⟨jid, hid⟩ : ∃ z, j.id = z := ⟨_, rfl⟩
        obtain ⟨jw, hjw⟩ : ∃ z, ansW j = z := ⟨_, rfl⟩
        obtain ⟨jn, hjn⟩ : ∃ z, ansN j = z := ⟨_, rfl⟩
        obtain ⟨jk, hjk⟩ : ∃ z, j.n = z := ⟨_, rfl⟩
        rw [hid] at q0
        rw [hjw] at q4
        rw [hjn] at q5
        rw [hjk] at q2
        obtain ⟨w5, hw5⟩ : ∃ w5, wr.alloc (.cells #[.int .i64 jid, .slice Ax bl cx, .int .i64 (jk : Int), .bool false, .int .i64 jw, .int .i64 jn, .slice Ay yl cy] 107) = w5 := ⟨_, rfl⟩
        obtain ⟨Bj, hBj⟩ : ∃ Bj, wr.heap.size = Bj := ⟨_, rfl⟩
        have hbx : Blk w5 Bj 107 #[.int .i64 jid, .slice Ax bl cx, .int .i64 (jk : Int), .bool false, .int .i64 jw, .int .i64 jn, .slice Ay yl cy] := by rw [← hw5, ← hBj]; exact Blk.new _ _ _
        have x3 := hbx.cell 3 (u := .bool false) rfl
        have xl := hbx.lt
        have HH := Lib.hid (show New w4 w5 by rw [← hw5]; exact hh.out.2.alloc _)
        clear hrf hry hbl hyl hj ha hid hjw hjn hjk hbx hstep hn hh
        go_wp2_with fail
        exact ⟨⟨kN, i + 1, rfl, rfl, by omega, hk, Lib.hid ⟨HK.out, HH.out⟩⟩, by simp [intOf]; omega⟩
      | some a =>
        have hd := dn_at hj ha
        rw [← hh.out.1, ← HDD.out] at hd
        have hkl : kN < dl := by rw [← HDL.out]; exact (List.getElem?_eq_some_iff.1 hd).1
        obtain ⟨ga, c9, A9, ca, hv, k0, k1, k2, k3, hrest⟩ := (HO4.out.new hh.out.2).at_ hd
        have hrd := hrest.1
        have ew : ansW j = a.worker := by unfold ansW; rw [ha]
        have en : ansN j = a.num := by unfold ansN; rw [ha]
        have eb : ansB j = a.body := by unfold ansB; rw [ha]
        rw [eb] at hyl hry
        rw [ew] at q4
        rw [en] at q5
        rw [ha] at q3 hstep
        have HK := Lib.hid (show kN + 1 = (dn (s.jobs.take (i + 1))).length by rw [hstep]; have := hh.out.1; simp; omega)
        obtain ⟨jid, hid⟩ : ∃ z, j.id = z := ⟨_, rfl⟩
        obtain ⟨jk, hjk⟩ : ∃ z, j.n = z := ⟨_, rfl⟩
        rw [hjk] at q2
        obtain ⟨jw, jn, ab⟩ := a
        dsimp only at hyl hry hrd k0 k1 k2 k3 q4 q5
        rw [hyl] at hrd k3
        rw [hid] at q0 k0
        rw [HDL.out] at hv
        injection hv with hv1 hv2 hv3
        subst hv1 hv3
        have hbl5 : yl ≤ 9223372036854775807 := by rw [← hyl]; have := HWF.out.an j (List.mem_of_getElem? hj) _ ha; dsimp only at this; omega
        obtain ⟨w5, hw5⟩ : ∃ w5, wr.alloc (.cells #[.int .i64 jid, .slice Ax bl cx, .int .i64 (jk : Int), .bool true, .int .i64 jw, .int .i64 jn, .slice Ay yl cy] 107) = w5 := ⟨_, rfl⟩
        obtain ⟨Bj, hBj⟩ : ∃ Bj, wr.heap.size = Bj := ⟨_, rfl⟩
        have hbx : Blk w5 Bj 107 #[.int .i64 jid, .slice Ax bl cx, .int .i64 (jk : Int), .bool true, .int .i64 jw, .int .i64 jn, .slice Ay yl cy] := by rw [← hw5, ← hBj]; exact Blk.new _ _ _
        have x0 := hbx.cell 0 (u := .int .i64 jid) rfl
        have x3 := hbx.cell 3 (u := .bool true) rfl
        have x4 := hbx.cell 4 (u := .int .i64 jw) rfl
        have x5 := hbx.cell 5 (u := .int .i64 jn) rfl
        have x6 := hbx.cell 6 (u := .slice Ay yl cy) rfl
        have xl := hbx.lt
        have hn5 : New wr w5 := by rw [← hw5]; exact (Chg.refl _ _).alloc _
        have HH := Lib.hid (show New w4 w5 from hh.out.2.trans hn5 (fun _ _ h => h))
        have l0 := hn5.cell k0 (fun h => h)
        have l1 := hn5.cell k1 (fun h => h)
        have l2 := hn5.cell k2 (fun h => h)
        have l3 := hn5.cell k3 (fun h => h)
        have HQ := Lib.hid (fun d => sameBytes_q A9 Ay yl yl ca cy ab ab (w5.drewN d) ((hrd.new hn5).new ((Chg.refl _ _).drewN d)) ((hry.new hn5).new ((Chg.refl _ _).drewN d)) hbl5 hbl5)
        have hkl2 : (kN : Int) < (dl : Int) := by omega
        have bge : decide ((dl : Int) ≤ (kN : Int)) = false := by simp; omega
        have bge2 : decide (dl ≤ kN) = false := by simp; omega
        have bne1 : (jid != jid) = false := by simp
        have bne2 : (jw != jw) = false := by simp
        have bne3 : (jn != jn) = false := by simp
        clear hrf hry hrd hbl hyl hj ha hid hjk hbx hstep hn hh hd hrest hn5 ew en eb hv2
        go_wp2_with fail
        go_quiet (first | (go_at_call 34; exact Calls.quiet_of (HQ.out _)))
        go_wp2_with fail
        exact ⟨⟨kN + 1, i + 1, rfl, rfl, by omega, by omega, Lib.hid ⟨HK.out, HH.out.trans ((Chg.refl _ _).drewN _) (fun _ _ h => h)⟩⟩, by simp [intOf]; omega⟩
    · obtain rfl : i = jl := by omega
      have hkd : kN = dl := by rw [hh.out.1, List.take_of_length_le (by rw [HJL.out]; omega), ← HDD.out, HDL.out]
      subst hkd
      obtain ⟨_, ⟨A7, c7, hv7, _⟩, _⟩ := hrf.shape
      rw [HJL.out] at hv7
      subst hv7
      clear hrf
      go_wp2_with fail
      go_ret
      exact ⟨by simp, HN4.out.trans hh.out.2 (fun _ _ h => h)⟩
end Go.Proofs.Ytbmplfhcdkeooaa
