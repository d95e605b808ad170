/- Contract of refuterref36.Answer. -/
import Derived.Test.YtbmplfhcdkeooaaRpEZ
set_option linter.unusedSimpArgs false
set_option linter.unusedVariables false
namespace Go.Proofs.Ytbmplfhcdkeooaa
set_option linter.unusedVariables false
open Go.RowKit Go.Mem Go.Pl

section
variable {w w' : World} {h : Nat} {al jv tv : Value} {T U : Nat → Prop} {s : S}
def knP (task worker num : Int) (t : Tr) : Bool := t.task == task && t.num == num && t.worker == worker
theorem any_succ {l : List Tr} {i : Nat} {y : Tr} {P : Tr → Bool} (hy : l[i]? = some y) : (l.take (i + 1)).any P = ((l.take i).any P || P y) := by rw [List.take_add_one, hy, List.any_append]; simp
theorem Ret.new (hr : RI w h al jv tv T s) (hn : New w w') : Ret w w' h al jv tv T s := ⟨hr.new hn, hn.mono (fun _ _ h => h.elim)⟩
set_option maxHeartbeats 8000000 in
set_option maxRecDepth 100000 in
theorem rAnswer_any (hr : RI w h al jv tv T s) (hw : WF s) (hN : s.tries.length ≤ 1000000) (task worker num tick : Int) (B : Option Addr) (nb cb : Nat) (body : List UInt8) (hb : ByT w T (.slice B nb cb) body) : Calls Try.prog 23 #[.pointer (some ⟨h, 0, none⟩), .int .i64 task, .int .i64 worker, .int .i64 num, .slice B nb cb, .int .i64 tick] w fun e w' => e = .returned (.tuple #[.bool (Pl.answer s task worker num body tick).2.1, .int .i64 (Pl.answer s task worker num body tick).2.2]) ∧ Ret w w' h al jv tv T (Pl.answer s task worker num body tick).1 := by
  have HB := Lib.hid hb
  obtain ⟨B', cb', hbe, hbr, hbc, hbm, _⟩ := hb
  injection hbe with e1 e2 e3
  subst e1 e2 e3
  have hbl : body.length ≤ 9223372036854775807 := by simp only [maxLen] at hbm; omega
  obtain ⟨nb, hnb⟩ : ∃ nb, body.length = nb := ⟨_, rfl⟩
  have HR := Lib.hid hr
  have HQ := Lib.hid (rCheck_any hr hw.al.2 worker tick)
  have hbh := hr.blk.lt
  obtain ⟨R, hR⟩ : ∃ R, Pl.answer s task worker num body tick = R := ⟨_, rfl⟩
  rw [hR, hnb]
  rw [hnb] at hbl
  have HNB := Lib.hid hnb
  by_cases hc : check s worker tick = 0
  case neg =>
    rw [answer_bad hc] at hR
    subst hR
    obtain ⟨C, hC⟩ : ∃ C, check s worker tick = C := ⟨_, rfl⟩
    rw [hC] at hc HQ ⊢
    have hcb : (C != 0) = true := by simpa using hc
    clear hr hc hC hw hbr hnb
    go_enter Try.func23, Try.ntmps23
    go_wp2_with fail
    refine HQ.out.mono ?_
    rintro e w1 ⟨rfl, hw1⟩
    subst hw1
    go_wp2_with fail
    go_ret2
    exact ⟨rfl, HR.out, Chg.refl _ _⟩
  rw [hc] at HQ
  have HF := Lib.hid (rFind_any hr task)
  have HRR := Lib.hid hR
  have HC := Lib.hid hc
  have HW := Lib.hid hw
  cases hf : findJ s.jobs task with
  | none =>
    rw [answer_none hc hf] at hR
    subst hR
    have hfe : find s task = -1 := by unfold find; rw [hf]
    rw [hfe] at HF
    clear hr hc hw hbr hnb hf hfe HRR
    go_enter Try.func23, Try.ntmps23
    go_wp2_with fail
    refine HQ.out.mono ?_
    rintro e w1 ⟨rfl, hw1⟩
    subst hw1
    go_wp2_with fail
    refine HF.out.mono ?_
    rintro e w1 ⟨rfl, hw1⟩
    subst hw1
    go_wp2_with fail
    go_ret2
    exact ⟨rfl, HR.out, Chg.refl _ _⟩
  | some k =>
    obtain ⟨j, hj, ej⟩ := findJ_some hf
    have hfe : find s task = (k : Int) := by unfold find; rw [hf]
    rw [hfe] at HF
    have HFF := Lib.hid hf
    have HJ := Lib.hid hj
    obtain ⟨A4, c4, hv4⟩ := hr.shape.2.2
    obtain ⟨m, hm⟩ : ∃ m, s.tries.length = m := ⟨_, rfl⟩
    rw [hm] at hv4 hN
    have HM := Lib.hid hm
    subst hv4
    clear hr hc hw hbr hnb hf hfe hm hj ej hR
    go_enter Try.func23, Try.ntmps23
    go_wp2_with fail
    refine HQ.out.mono ?_
    rintro e w1 ⟨rfl, hw1⟩
    subst hw1
    go_wp2_with fail
    refine HF.out.mono ?_
    rintro e w1 ⟨rfl, hw1⟩
    subst hw1
    go_wp2_with fail
    go_loopw [16, 17] (fun kv iv wr => ∃ i : Nat, iv = .int .i64 (i : Int) ∧ i ≤ m ∧ kv = .bool ((s.tries.take i).any (knP task worker num)) ∧ Hid (New w1 wr)) (fun _ iv _ => m - (intOf iv).toNat)
    case atStart => exact ⟨0, rfl, by omega, by simp, Lib.hid (Chg.refl _ _)⟩
    case round =>
      obtain ⟨i, rfl, hi, rfl, hh⟩ := hrel
      have hrw := HR.out.new hh.out
      obtain ⟨_, _, _, _, b4⟩ := hrw.cells
      have hbw := hrw.blk.lt
      by_cases hlt : i < m
      · obtain ⟨y, hy⟩ : ∃ y, s.tries[i]? = some y := ⟨_, List.getElem?_eq_getElem (by have := HM.out; omega)⟩
        obtain ⟨gt, ct, hvt, k0, k1, k2, k3, k4, _⟩ := hrw.try_at hy
        rw [HM.out] at hvt
        injection hvt with hv1 hv2 hv3
        subst hv1 hv3
        have hany := any_succ (P := knP task worker num) hy
        unfold knP at hany
        obtain ⟨fb, hfb⟩ : ∃ fb, (s.tries.take i).any (knP task worker num) = fb := ⟨_, rfl⟩
        rw [hfb]
        rw [show (fun t : Tr => t.task == task && t.num == num && t.worker == worker) = knP task worker num from rfl, hfb] at hany
        obtain ⟨ya, hya⟩ : ∃ z, y.task = z := ⟨_, rfl⟩
        obtain ⟨yn, hyn⟩ : ∃ z, y.num = z := ⟨_, rfl⟩
        obtain ⟨yw, hyw⟩ : ∃ z, y.worker = z := ⟨_, rfl⟩
        rw [hya] at k0 hany
        rw [hyn] at k1 hany
        rw [hyw] at k2 hany
        obtain ⟨w2, hw2⟩ : ∃ w2, wr.alloc (.cells #[.int .i64 ya, .int .i64 yn, .int .i64 yw, .int .i64 y.tick, .bool y.over] 109) = w2 := ⟨_, rfl⟩
        obtain ⟨B2, hB2⟩ : ∃ B2, wr.heap.size = B2 := ⟨_, rfl⟩
        have hn2 : New wr w2 := by rw [← hw2]; exact (Chg.refl _ _).alloc _
        have hbx : Blk w2 B2 109 #[.int .i64 ya, .int .i64 yn, .int .i64 yw, .int .i64 y.tick, .bool y.over] := by rw [← hw2, ← hB2]; exact Blk.new _ _ _
        have x0 := hbx.cell 0 (u := .int .i64 ya) rfl
        have x1 := hbx.cell 1 (u := .int .i64 yn) rfl
        have x2 := hbx.cell 2 (u := .int .i64 yw) rfl
        have xl := hbx.lt
        have HAN := Lib.hid hany
        have HN2 := Lib.hid (show New w1 w2 from hh.out.trans hn2 (fun _ _ h => h))
        clear hy hany hfb hya hyn hyw hn2 hbx hv2 hrw
        cases fb with
        | true =>
          go_wp2_with fail
          exact ⟨⟨i + 1, rfl, by omega, by rw [HAN.out]; rfl, HN2⟩, by simp [intOf]; omega⟩
        | false =>
          cases e1 : (ya == task) with
          | false =>
            go_wp2_with fail
            exact ⟨⟨i + 1, rfl, by omega, by rw [HAN.out, e1]; rfl, HN2⟩, by simp [intOf]; omega⟩
          | true =>
            cases e2 : (yn == num) with
            | false =>
              go_wp2_with fail
              exact ⟨⟨i + 1, rfl, by omega, by rw [HAN.out, e1, e2]; rfl, HN2⟩, by simp [intOf]; omega⟩
            | true =>
              cases e3 : (yw == worker) with
              | false =>
                go_wp2_with fail
                exact ⟨⟨i + 1, rfl, by omega, by rw [HAN.out, e1, e2, e3]; rfl, HN2⟩, by simp [intOf]; omega⟩
              | true =>
                go_wp2_with fail
                exact ⟨⟨i + 1, rfl, by omega, by rw [HAN.out, e1, e2, e3]; rfl, HN2⟩, by simp [intOf]; omega⟩
      · obtain rfl : i = m := by omega
        have hall : (s.tries.take i).any (knP task worker num) = known s task worker num := by rw [List.take_of_length_le (by rw [HM.out]; exact Nat.le_refl _)]; rfl
        rw [hall]
        clear hall
        obtain ⟨kn, hkn⟩ : ∃ kn, known s task worker num = kn := ⟨_, rfl⟩
        rw [hkn]
        have HKN := Lib.hid hkn
        clear hkn
        have HRW := Lib.hid hrw
        cases kn with
        | false =>
          have hres := HRR.out
          rw [answer_stale HC.out HFF.out HKN.out] at hres
          subst hres
          clear hrw
          go_wp2_with fail
          go_ret2
          exact ⟨rfl, .new HR.out hh.out⟩
        | true =>
          by_cases hb6 : 65536 < nb
          · have hres := HRR.out
            rw [answer_limit HC.out HFF.out HKN.out (by rw [HNB.out]; exact hb6)] at hres
            subst hres
            clear hrw
            go_wp2_with fail
            go_ret2
            exact ⟨rfl, .new HR.out hh.out⟩
          · obtain ⟨gj, cj, bv, av, hvj, _, _, _, _, _, q3, q4, q5, q6, qf⟩ := hrw.jobs.at_ HJ.out
            obtain ⟨_, _, b2, b3, _⟩ := hrw.cells
            have bf2 := hrw.blk.frozen 2
            have qf3 := qf 3 (by omega)
            have qf4 := qf 4 (by omega)
            have qf5 := qf 5 (by omega)
            have qf6 := qf 6 (by omega)
            have hkl : k < s.jobs.length := (List.getElem?_eq_some_iff.1 HJ.out).1
            have hjl := HW.out.len
            have hj1 := hrw.setTick tick
            have hne : gj ≠ h := fun e => hrw.ne.1.2.1 (by rw [hvj, e]; rfl)
            obtain ⟨jl, hjle⟩ : ∃ jl, s.jobs.length = jl := ⟨_, rfl⟩
            have hvj' := hvj
            rw [hjle] at hvj hkl hjl
            have HJL := Lib.hid hjle
            have hklI : (k : Int) < (jl : Int) := by omega
            cases ha : j.ans.isSome with
            | true =>
              have hres := HRR.out
              rw [answer_late HC.out HFF.out HKN.out (by rw [HNB.out]; omega) HJ.out ha] at hres
              subst hres
              have HE := Lib.hid (show Ret w1 (wr.setCell ⟨h, 2, none⟩ (.int .i64 tick)) h al jv (.slice A4 i c4) T { s with tick := tick } from ⟨hj1, (hh.out.mono (T := ownR h al jv (.slice A4 i c4)) (fun _ _ h => h.elim)).setCell (p := ⟨h, 2, none⟩) (fun _ => .inl rfl) _⟩)
              rw [ha] at q3
              subst hvj
              clear hrw hj1 hvj' hjle
              go_wp2_with fail
              go_ret2
              exact ⟨rfl, HE.out⟩
            | false =>
              have hres := HRR.out
              rw [answer_first HC.out HFF.out HKN.out (by rw [HNB.out]; omega) HJ.out ha] at hres
              subst hres
              have hT : ByT (wr.setCell ⟨h, 2, none⟩ (.int .i64 tick)) T (.slice B nb cb) body := by
                have := HB.out
                rw [HNB.out] at this
                exact (this.chg hh.out (fun _ _ h => h)).chg (chg_one wr h 2 _) (fun q hq e => (hrw.sep q hq).2 (.inl e))
              have hj2 := hj1.setAns (c := cj) (k := k) hvj' HJ.out ⟨worker, num, body⟩ hT
              have hc2 : Chg (ownR h al jv (.slice A4 i c4)) w1 (((((wr.setCell ⟨h, 2, none⟩ (.int .i64 tick)).setCell ⟨gj, k * 7 + 3, none⟩ (.bool true)).setCell ⟨gj, k * 7 + 4, none⟩ (.int .i64 worker)).setCell ⟨gj, k * 7 + 5, none⟩ (.int .i64 num)).setCell ⟨gj, k * 7 + 6, none⟩ (.slice B nb cb)) := by
                have hob : jv.ownBlock = some gj := by rw [hvj]; rfl
                exact (((((hh.out.mono (T := ownR h al jv (.slice A4 i c4)) (fun _ _ h => h.elim)).setCell (p := ⟨h, 2, none⟩) (fun _ => .inl rfl) _).setCell (p := ⟨gj, k * 7 + 3, none⟩) (fun _ => .inr (.inr (.inl hob))) _).setCell (p := ⟨gj, k * 7 + 4, none⟩) (fun _ => .inr (.inr (.inl hob))) _).setCell (p := ⟨gj, k * 7 + 5, none⟩) (fun _ => .inr (.inr (.inl hob))) _).setCell (p := ⟨gj, k * 7 + 6, none⟩) (fun _ => .inr (.inr (.inl hob))) _
              have HE := Lib.hid (show Ret w1 _ h al jv (.slice A4 i c4) T (setAns s k j ⟨worker, num, body⟩ tick) from ⟨hj2, hc2⟩)
              rw [ha] at q3
              subst hvj
              clear hrw hj1 hvj' hjle hj2 hc2 hT
              go_wp2_with fail
              go_ret2
              exact ⟨rfl, HE.out⟩
end
end Go.Proofs.Ytbmplfhcdkeooaa
