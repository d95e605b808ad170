/- Contract of refuterref36.Copy. -/
import Derived.Test.YtbmplfhcdkeooaaRpFZ
import Derived.Deep.RegionLaw
set_option linter.unusedSimpArgs false
set_option linter.unusedVariables false
namespace Go.Proofs.Ytbmplfhcdkeooaa
set_option linter.unusedVariables false
open Go.RowKit Go.Mem Go.Pl

section
variable {w w' : World} {h : Nat} {al jv tv : Value} {T U : Nat → Prop} {s : S}
theorem elemBoolN : ElemN Try.prog 86 4 1 1 := ElemN.mk' Try.underlying86 (by kernel_rfl) (by omega)
/-- A whole row is appended to nothing. -/
theorem copy_row {P : Program} {t e : TypeId} {sz bytes : Nat} {A : Option Addr} {n c : Nat} {xs : List Value} (hE : ElemN P t e sz bytes) (hsz : 0 < sz) (ty : TypeId) (ho : w.ownsRow 0 e sz (.slice A n c) n xs) (h1 : ∀ u ∈ xs, u.oneCell' = true) (hn : n ≤ maxLen) (hb : n * bytes ≤ 140737488355328) {wd : World} (hwd : New w wd) :
    ∃ A' c' w', (Builtin.append_ #[t, t] ty #[.slice none 0 0, .slice A n c]).run P wd = .ok (.slice A' n c') w' ∧ w'.ownsRow wd.heap.size e sz (.slice A' n c') n xs ∧ New wd w' := by
  obtain ⟨v', w', hr, o, g, b⟩ := run_appN (c := c) hE ty (World.ownsRow_nil wd wd.heap.size e sz) ((RdN.of_own hsz ho).new hwd) h1 (by omega) (by simpa using hb) (Nat.le_refl _)
  rw [List.nil_append, Nat.zero_add] at o
  obtain ⟨A', c', hv, _⟩ := ownN_shape o
  subst hv
  exact ⟨A', c', w', hr, o, (Chg.refl _ wd).grown g (fun q hq => by cases hq)⟩
theorem triesR_one (l : List Tr) : ∀ u ∈ triesR l, u.oneCell' = true := fun u hu => by
  obtain ⟨t, _, hu⟩ := List.mem_flatMap.1 hu
  simp only [tryR, List.mem_cons, List.not_mem_nil, or_false] at hu
  rcases hu with rfl | rfl | rfl | rfl | rfl <;> rfl
theorem boolsR_one (l : List Bool) : ∀ u ∈ boolsR l, u.oneCell' = true := fun u hu => by
  obtain ⟨b, _, rfl⟩ := List.mem_map.1 hu
  rfl
set_option maxHeartbeats 8000000 in
set_option maxRecDepth 100000 in
theorem rCopy_any (hr : RI w h al jv tv T s) (hw : WF s) (hN : s.tries.length ≤ 1000000) : Calls Try.prog 30 #[.pointer (some ⟨h, 0, none⟩)] w fun e w' => ∃ h2 al2 jv2 tv2, e = .returned (.pointer (some ⟨h2, 0, none⟩)) ∧ RI w' h2 al2 jv2 tv2 T s ∧ New w w' ∧ ∀ k, ownR h2 al2 jv2 tv2 k → w.heap.size ≤ k := by
  have HR := Lib.hid hr
  obtain ⟨⟨Aa, ca, hva⟩, ⟨Aj, cj, hvj, _⟩, ⟨At, ct, hvt⟩⟩ := hr.shape
  obtain ⟨b0, b1, b2, b3, b4⟩ := hr.cells
  have hbl := hr.blk.lt
  have hal := hw.al.2
  have hjl := hw.len
  obtain ⟨na, hna⟩ : ∃ z, s.alive.length = z := ⟨_, rfl⟩
  obtain ⟨nj, hnj⟩ : ∃ z, s.jobs.length = z := ⟨_, rfl⟩
  obtain ⟨nt, hnt⟩ : ∃ z, s.tries.length = z := ⟨_, rfl⟩
  obtain ⟨tmo, htmo⟩ : ∃ z, s.timeout = z := ⟨_, rfl⟩
  obtain ⟨tck, htck⟩ : ∃ z, s.tick = z := ⟨_, rfl⟩
  have HE := Lib.hid (And.intro hna (And.intro hnj (And.intro hnt (And.intro htmo htck))))
  rw [hna] at hva hal
  rw [hnj] at hvj hjl
  rw [hnt] at hvt hN
  rw [htmo] at b1
  rw [htck] at b2
  subst hva hvj hvt
  -- the block
  obtain ⟨w1, hw1⟩ : ∃ w1, w.drew.alloc (.cells #[.slice none 0 0, .int .i64 tmo, .int .i64 tck, .slice none 0 0, .slice none 0 0] 104) = w1 := ⟨_, rfl⟩
  obtain ⟨H, hH⟩ : ∃ H, w.heap.size = H := ⟨_, rfl⟩
  have n1 : New w w1 := by rw [← hw1]; exact ((Chg.refl _ _).drew).alloc _
  have k1 : Blk w1 H 104 #[.slice none 0 0, .int .i64 tmo, .int .i64 tck, .slice none 0 0, .slice none 0 0] := by rw [← hw1, ← hH]; exact Blk.new w.drew _ _
  -- alive
  have ha0 := hr.alive
  rw [hna] at ha0
  have nd1 : New w w1.drew := n1.drew
  obtain ⟨A2, c2, w2, hrun2, o2, g2⟩ := copy_row elemBoolN (by omega) 86 ha0 (boolsR_one _) (by simp only [maxLen]; omega) (by omega) nd1
  have k2 := k1.chg ((Chg.refl (fun _ => False) w1).drew.trans g2 (fun _ _ h => h)) (fun h => h)
  obtain ⟨w3, hw3⟩ : ∃ w3, w2.setCell ⟨H, 0, none⟩ (.slice A2 na c2) = w3 := ⟨_, rfl⟩
  have k3 : Blk w3 H 104 #[.slice A2 na c2, .int .i64 tmo, .int .i64 tck, .slice none 0 0, .slice none 0 0] := by rw [← hw3]; exact k2.set_ 0 _
  have hs1 : H + 1 ≤ w1.heap.size := by have := k1.lt; omega
  have n3 : New w w3 := by rw [← hw3]; exact chg_setNew (nd1.trans g2 (fun _ _ h => h)) (by omega) _
  have o3 : w3.ownsRow (H + 1) 4 1 (.slice A2 na c2) na (boolsR s.alive) := by
    rw [← hw3]
    exact ownN_chg (ownN_base o2 hs1) (chg_one w2 H 0 _) (fun q hq e => by have := (ownN_lt o2 hq).1; simp at this; omega)
  -- tasks
  obtain ⟨css, j0, hcl, h7, hone, hjb⟩ := hr.jobs.open
  rw [hnj] at j0 hcl
  have nd3 : New w w3.drew := n3.drew
  obtain ⟨A5, c5, w5, hrun5, o5, g5⟩ := copy_row elemJobs (by omega) 101 j0 (flat_one hone) (by simp only [maxLen]; omega) (by omega) nd3
  have k5 := k3.chg ((Chg.refl (fun _ => False) w3).drew.trans g5 (fun _ _ h => h)) (fun h => h)
  obtain ⟨w6, hw6⟩ : ∃ w6, w5.setCell ⟨H, 3, none⟩ (.slice A5 nj c5) = w6 := ⟨_, rfl⟩
  have k6 : Blk w6 H 104 #[.slice A2 na c2, .int .i64 tmo, .int .i64 tck, .slice A5 nj c5, .slice none 0 0] := by rw [← hw6]; exact k5.set_ 3 _
  have hs3 : H + 1 ≤ w3.heap.size := by have := k3.lt; omega
  have n6 : New w w6 := by rw [← hw6]; exact chg_setNew (nd3.trans g5 (fun _ _ h => h)) (by omega) _
  have hc36 : Chg (fun q => q = H) w3 w6 := by rw [← hw6]; exact (((Chg.refl (fun _ => False) w3).drew.trans g5 (fun _ _ h => h)).mono (T := fun q => q = H) (fun _ _ h => h.elim)).setCell (p := ⟨H, 3, none⟩) (fun _ => rfl) _
  have o36 : w6.ownsRow (H + 1) 4 1 (.slice A2 na c2) na (boolsR s.alive) := ownN_chg o3 hc36 (fun q hq e => by have := (ownN_lt o3 hq).1; omega)
  have o6 : w6.ownsRow (H + 1) 107 7 (.slice A5 nj c5) nj css.flatten := by
    rw [← hw6]
    exact ownN_chg (ownN_base o5 hs3) (chg_one w5 H 3 _) (fun q hq e => by have := (ownN_lt o5 hq).1; simp at this; omega)
  -- tries
  have t0 := hr.tries
  rw [hnt] at t0
  have nd6 : New w w6.drew := n6.drew
  obtain ⟨A8, c8, w8, hrun8, o8, g8⟩ := copy_row elemTries (by omega) 102 t0 (triesR_one _) (by simp only [maxLen]; omega) (by omega) nd6
  have k8 := k6.chg ((Chg.refl (fun _ => False) w6).drew.trans g8 (fun _ _ h => h)) (fun h => h)
  obtain ⟨w9, hw9⟩ : ∃ w9, w8.setCell ⟨H, 4, none⟩ (.slice A8 nt c8) = w9 := ⟨_, rfl⟩
  have k9 : Blk w9 H 104 #[.slice A2 na c2, .int .i64 tmo, .int .i64 tck, .slice A5 nj c5, .slice A8 nt c8] := by rw [← hw9]; exact k8.set_ 4 _
  have hs6 : H + 1 ≤ w6.heap.size := by have := k6.lt; omega
  have n9 : New w w9 := by rw [← hw9]; exact chg_setNew (nd6.trans g8 (fun _ _ h => h)) (by omega) _
  have hc69 : Chg (fun q => q = H) w6 w9 := by rw [← hw9]; exact (((Chg.refl (fun _ => False) w6).drew.trans g8 (fun _ _ h => h)).mono (T := fun q => q = H) (fun _ _ h => h.elim)).setCell (p := ⟨H, 4, none⟩) (fun _ => rfl) _
  have o39 := ownN_chg o36 hc69 (fun q hq e => by have := (ownN_lt o36 hq).1; omega)
  have o69 := ownN_chg o6 hc69 (fun q hq e => by have := (ownN_lt o6 hq).1; omega)
  have o9 : w9.ownsRow (H + 1) 109 5 (.slice A8 nt c8) nt (triesR s.tries) := by
    rw [← hw9]
    exact ownN_chg (ownN_base o8 hs6) (chg_one w8 H 4 _) (fun q hq e => by have := (ownN_lt o8 hq).1; simp at this; omega)
  have hfin : RI w9 H (.slice A2 na c2) (.slice A5 nj c5) (.slice A8 nt c8) T s := by
    refine ⟨?_, ?_, ⟨css, ⟨?_, h7⟩, by rw [hcl, hnj], fun i j hj => ?_⟩, ?_, fun q hq => ?_⟩
    · unfold rCells; rw [htmo, htck]; exact k9
    · rw [hna]; exact ownN_base o39 (Nat.zero_le _)
    · rw [hcl]; exact ownN_base o69 (Nat.zero_le _)
    · obtain ⟨bv, av, q1, q2, q3⟩ := hjb i j hj
      exact ⟨bv, av, q1, q2.chg n9 (fun _ _ h => h), q3.chg n9 (fun _ _ h => h)⟩
    · rw [hnt]; exact ownN_base o9 (Nat.zero_le _)
    · have hq1 := (hr.sep q hq).1
      refine ⟨Nat.lt_of_lt_of_le hq1 n9.size, fun ho => ?_⟩
      rcases ho with e | e | e | e
      · omega
      · have := (ownN_lt o39 e).1; omega
      · have := (ownN_lt o69 e).1; omega
      · have := (ownN_lt o9 e).1; omega
  have HFIN := Lib.hid (show ∃ h2 al2 jv2 tv2, Ending.returned (Value.pointer (some ⟨H, 0, none⟩)) = Ending.returned (.pointer (some ⟨h2, 0, none⟩)) ∧ RI w9 h2 al2 jv2 tv2 T s ∧ New w w9 ∧ ∀ k, ownR h2 al2 jv2 tv2 k → w.heap.size ≤ k from ⟨H, _, _, _, rfl, hfin, n9, fun q ho => by
    rcases ho with e | e | e | e
    · omega
    · have := (ownN_lt o39 e).1; omega
    · have := (ownN_lt o69 e).1; omega
    · have := (ownN_lt o9 e).1; omega⟩)
  -- what the walk loads
  have x10 := k1.cell 0 (u := .slice none 0 0) rfl
  have x33 := k3.cell 3 (u := .slice none 0 0) rfl
  have x64 := k6.cell 4 (u := .slice none 0 0) rfl
  have y10 := n1.cell b0 (fun h => h)
  have y33 := n3.cell b3 (fun h => h)
  have y64 := n6.cell b4 (fun h => h)
  have f2 := k2.frozen 0
  have f5 := k5.frozen 3
  have f8 := k8.frozen 4
  have z2 := k2.cell 0 (u := .slice none 0 0) rfl
  have z5 := k5.cell 3 (u := .slice none 0 0) rfl
  have z8 := k8.cell 4 (u := .slice none 0 0) rfl
  have l1 := k1.lt
  have l2 := k2.lt
  have l3 := k3.lt
  have l5 := k5.lt
  have l6 := k6.lt
  have l8 := k8.lt
  have s1 := n1.size
  have s3 := n3.size
  have s6 := n6.size
  clear hr hw hna hnj hnt htmo htck n1 k1 ha0 nd1 o2 g2 k2 k3 n3 o3 j0 hcl h7 hone hjb nd3 o5 g5 k5 k6 n6 hc36 o36 o6 t0 nd6 o8 g8 k8 k9 n9 hc69 o39 o69 o9 hfin hs1 hs3 hs6 css
  go_enter Try.func30, Try.ntmps30
  go_upto_region 1 with fail
  go_cut [3] from 4 to 50 (fun v wx => v = .pointer (some ⟨H, 0, none⟩) ∧ wx = w1)
  case first =>
    go_region_law (fail)
    all_goals (go_wp2_with fail; go_meet; exact ⟨rfl, rfl⟩)
  case rest =>
    obtain ⟨rfl, hwc⟩ := hcut
    subst hwc
    go_upto_region 2 with fail
    go_cut [3] from 4 to 50 (fun v wx => v = .pointer (some ⟨H, 0, none⟩) ∧ wx = w3)
    case first =>
      go_region_law (first | (refine step_appN rfl _ _ _ rfl rfl rfl hrun2 ?_))
      all_goals (go_wp2_with fail; go_meet; exact ⟨rfl, rfl⟩)
    case rest =>
      obtain ⟨rfl, hwc⟩ := hcut
      subst hwc
      go_upto_region 3 with fail
      go_cut [3] from 4 to 50 (fun v wx => v = .pointer (some ⟨H, 0, none⟩) ∧ wx = w6)
      case first =>
        go_region_law (first | (refine step_appN rfl _ _ _ rfl rfl rfl hrun5 ?_))
        all_goals (go_wp2_with fail; go_meet; exact ⟨rfl, rfl⟩)
      case rest =>
        obtain ⟨rfl, hwc⟩ := hcut
        subst hwc
        go_upto_region 4 with fail
        go_cut [3] from 4 to 50 (fun v wx => v = .pointer (some ⟨H, 0, none⟩) ∧ wx = w9)
        case first =>
          go_region_law (first | (refine step_appN rfl _ _ _ rfl rfl rfl hrun8 ?_))
          all_goals (go_wp2_with fail; go_meet; exact ⟨rfl, rfl⟩)
        case rest =>
          obtain ⟨rfl, hwc⟩ := hcut
          subst hwc
          go_wp2_with fail
          go_ret
          exact HFIN.out
end
end Go.Proofs.Ytbmplfhcdkeooaa
