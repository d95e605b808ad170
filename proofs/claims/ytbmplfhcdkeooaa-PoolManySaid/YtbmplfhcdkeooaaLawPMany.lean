/- The law PoolMany. -/
import Derived.Test.YtbmplfhcdkeooaaPlO
import Derived.Test.YtbmplfhcdkeooaaPurePl3
import Derived.Test.YtbmplfhcdkeooaaArgs
namespace Go.Proofs.Ytbmplfhcdkeooaa
set_option linter.unusedVariables false
open Go.RowKit Go.Mem Go.Pl

/-- The i-th task is given out; its ID is t. -/
def MidP (J : List Job) (i : Nat) (t : Int) (s : S) : Prop := ∃ s0 j, s = giveOut s0 0 (i : Int) i j ∧ Rnd J i s0 ∧ J[i]? = some j ∧ j.id = t
theorem row_step {w w' : World} {O O' : Nat → Prop} {A : Option Addr} {n : Nat} {xs : List Value} (h : Rd w A n xs ∧ ∀ k, Go.Mem.blk A = some k → k < w.heap.size ∧ ¬ O k) (hs : PStep w w' O O') : Rd w' A n xs ∧ ∀ k, Go.Mem.blk A = some k → k < w'.heap.size ∧ ¬ O' k :=
  ⟨h.1.chg hs.chg (fun k hk _ => (h.2 k hk).2), fun k hk => ⟨Nat.lt_of_lt_of_le (h.2 k hk).1 hs.chg.size, fun ho => by
    rcases hs.own k ho with h1 | h1
    · exact (h.2 k hk).2 h1
    · have := (h.2 k hk).1; omega⟩⟩
theorem fillJ {n k i : Nat} {s : S} (h : Fill n k i s) : ∀ j ∈ s.jobs, j.ans = none ∧ j.n = 0 ∧ j.body = [] := fun j hj => ⟨(h.job j hj).1, (h.job j hj).2.1, (h.job j hj).2.2.1⟩
theorem pm_add {w w1 : World} {g n k i : Nat} {s : S} {O : Nat → Prop} {id : Int} (hid : id = (((i + k) % n : Nat) : Int)) (hi : i < n) (hn : n ≤ 100000) (hf : Fill n k i s) (h : PN w w1 O g s) :
    Calls Try.prog 12 #[.pointer (some ⟨g, 0, none⟩), .agg #[.int .i64 id, .slice none 0 0]] w1 fun e w' => e = .returned (.int .i64 (if i < 1024 then 0 else 4)) ∧ ∃ s' O', Fill n k (i + 1) s' ∧ PN w w' O' g s' := by
  have hm : (i + k) % n < n := Nat.mod_lt _ (by omega)
  refine (pnAdd h id (by unfold Go.Mem.I64; omega) none 0 0 [] (Rd.nil _ _) (by omega)).mono ?_
  rintro e w' ⟨rfl, O', h1, _⟩
  subst hid
  obtain ⟨h2, h3⟩ := hf.add hi hn
  rw [h2]
  exact ⟨rfl, _, O', h3, h1⟩
theorem pm_ask {w w1 : World} {g i : Nat} {s : S} {J : List Job} {O : Nat → Prop} (hJ : ∀ j ∈ J, j.ans = none ∧ j.n = 0 ∧ j.body = []) (hi : i < J.length) (hi5 : i < 100) (hr : Rnd J i s) (h : PN w w1 O g s) :
    Calls Try.prog 14 #[.pointer (some ⟨g, 0, none⟩), .int .i64 0, .int .i64 (i : Int)] w1 fun e w' => ∃ A c t, e = .returned (.tuple #[.agg #[.int .i64 t, .slice A 0 c], .int .i64 0, .bool true, .int .i64 0]) ∧ (J.map (·.id))[i]? = some t ∧ Go.Mem.I64 t ∧ ∃ s' O', MidP J i t s' ∧ PN w w' O' g s' ∧ PStep w1 w' O O' := by
  obtain ⟨j, hj⟩ : ∃ j, J[i]? = some j := ⟨_, List.getElem?_eq_getElem hi⟩
  have hsj : s.jobs[i]? = some j := by rw [hr.rest i (Nat.le_refl _)]; exact hj
  have hb := hr.wf.idr j (List.mem_of_getElem? hsj)
  have htr := hr.trl
  refine (pnAsk h 0 (i : Int) (by omega)).mono ?_
  rw [hr.ask hJ hi hi5 hj]
  rintro e w' ⟨A, c, rfl, _, O', h1, h2, _⟩
  exact ⟨A, c, j.id, rfl, by rw [List.getElem?_map, hj]; rfl, by unfold Go.Mem.I64; omega, _, O', ⟨s, j, rfl, hr, hj, rfl⟩, h1, h2⟩
theorem pm_answer {w w1 : World} {g i : Nat} {s : S} {J : List Job} {O : Nat → Prop} {t : Int} (hJ : ∀ j ∈ J, j.ans = none ∧ j.n = 0 ∧ j.body = []) (hi : i < J.length) (hi5 : i < 100) (ht : Go.Mem.I64 t) (hr : MidP J i t s) (h : PN w w1 O g s) :
    Calls Try.prog 15 #[.pointer (some ⟨g, 0, none⟩), .agg #[.int .i64 t, .int .i64 0, .int .i64 0, .slice none 0 0], .int .i64 (i : Int)] w1 fun e w' => e = .returned (.tuple #[.bool true, .int .i64 0]) ∧ ∃ s' O', Rnd J (i + 1) s' ∧ PN w w' O' g s' ∧ PStep w1 w' O O' := by
  obtain ⟨s0, j, rfl, h0, hj, rfl⟩ := hr
  obtain ⟨h2, h3⟩ := h0.answer hJ hi hi5 hj
  refine (pnAnswer0 h j.id 0 0 (i : Int) ht (by unfold Go.Mem.I64; omega)).mono ?_
  rw [h2]
  rintro e w' ⟨rfl, O', h4, h5⟩
  exact ⟨rfl, _, O', h3, h4, h5⟩

set_option maxHeartbeats 4000000 in
set_option maxRecDepth 100000 in
theorem poolMany_walk (a b : Int) (ha : Go.Mem.I64 a) (hb : Go.Mem.I64 b) (w : World) : Calls Try.prog 3 #[.int .i64 a, .int .i64 b] w fun e w' => e = .returned (.bool true) ∧ New w w' := by
  obtain ⟨q1, q2⟩ := aroundI_range a 9 (by omega)
  obtain ⟨M, hM⟩ : ∃ M : Nat, aroundI a 9 = (M : Int) := ⟨(aroundI a 9).toNat, by omega⟩
  have hM8 : M ≤ 8 := by omega
  obtain ⟨q3, q4⟩ := aroundI_range b (1020 + (M : Int)) (by omega)
  obtain ⟨K, hK⟩ : ∃ K : Nat, aroundI b (1020 + (M : Int)) = (K : Int) := ⟨(aroundI b (1020 + (M : Int))).toNat, by omega⟩
  have hKn : K < 1020 + M := by omega
  have HM := Lib.hid hM
  have HK := Lib.hid hK
  clear hM hK q1 q2 q3 q4
  obtain ⟨ha1, ha2⟩ := ha
  obtain ⟨hb1, hb2⟩ := hb
  go_enter Try.func3, Try.ntmps3
  go_wp2_with fail
  refine (pnNew 1 1 (by omega) (by omega) w w (Chg.refl _ _)).mono ?_
  rintro e w0 ⟨g, O0, rfl, hp, _⟩
  have H0 := Lib.hid hp
  clear hp
  go_wp2_with fail
  refine (around_any a 9 w0 ha1 ha2 (by omega) (by omega)).mono ?_
  rintro e w1 ⟨rfl, hw⟩
  subst hw
  rw [HM.out]
  go_wp2_with fail
  refine (around_any b (1020 + (M : Int)) _ hb1 hb2 (by omega) (by omega)).mono ?_
  rintro e w2 ⟨rfl, hw⟩
  subst hw
  rw [HK.out]
  go_wp2_with fail
  go_loopw [9] (fun v wr => ∃ i : Nat, i ≤ 1020 + M ∧ v = .int .i64 (i : Int) ∧ Hid (∃ s O, Fill (1020 + M) K i s ∧ PN w wr O g s)) (fun v _ => 1020 + M - (intOf v).toNat)
  case atStart => exact ⟨0, by omega, rfl, Lib.hid ⟨_, _, Fill.start _ _, H0.out⟩⟩
  case round =>
    obtain ⟨i, hi, rfl, hh⟩ := hrel
    obtain ⟨s, O, hf, hp⟩ := hh.out
    clear hh
    have HF := Lib.hid hf
    have HP := Lib.hid hp
    clear hf hp
    by_cases hlt : i < 1020 + M
    · by_cases h24 : i < 1024
      · have Q := Lib.hid (show ∀ id : Int, id = (((i + K) % (1020 + M) : Nat) : Int) → _ from fun id h => pm_add (w := w) (w1 := wr) (g := g) (s := s) (O := O) h hlt (by omega) HF.out HP.out)
        rw [if_pos h24] at Q
        go_wp2_with fail
        refine (Q.out _ (by simp)).mono ?_
        rintro e w3 ⟨rfl, hres⟩
        have HR := Lib.hid hres
        clear hres
        go_wp2_with fail
        exact ⟨⟨i + 1, by omega, rfl, HR⟩, by simp [intOf]; omega⟩
      · have Q := Lib.hid (show ∀ id : Int, id = (((i + K) % (1020 + M) : Nat) : Int) → _ from fun id h => pm_add (w := w) (w1 := wr) (g := g) (s := s) (O := O) h hlt (by omega) HF.out HP.out)
        rw [if_neg h24] at Q
        go_wp2_with fail
        refine (Q.out _ (by simp)).mono ?_
        rintro e w3 ⟨rfl, hres⟩
        have HR := Lib.hid hres
        clear hres
        go_wp2_with fail
        exact ⟨⟨i + 1, by omega, rfl, HR⟩, by simp [intOf]; omega⟩
    · obtain rfl : i = 1020 + M := by omega
      go_wp2_with fail
      refine (pnOpen HP.out).mono ?_
      rintro e w3 ⟨A, c, rfl, hop, hp, hnew⟩
      have hol := HF.out.opens
      have hlen := HF.out.len
      have hll : (opens s).length = min (1020 + M) 1024 := by rw [hol, List.length_map, hlen]
      have hop : w3.ownsRow wr.heap.size 3 1 (.slice A (opens s).length c) (opens s).length (is (s.jobs.map (·.id))) := hol ▸ hop
      have HRow := Lib.hid (show Rd w3 A (opens s).length (is (s.jobs.map (·.id))) ∧ ∀ k, Go.Mem.blk A = some k → k < w3.heap.size ∧ ¬ O k from ⟨Rd.of_own hop, fun k hk => ⟨(own_blk_le hop hk).2, fun ho => by have := HP.out.lt ho; have := (own_blk_le hop hk).1; omega⟩⟩)
      have HJ := Lib.hid (fillJ HF.out)
      have HLen := Lib.hid (show s.jobs.length = (opens s).length by omega)
      have HR0 := Lib.hid HF.out.rnd
      have HP3 := Lib.hid hp
      obtain ⟨n, hn⟩ : ∃ n, (opens s).length = n := ⟨_, rfl⟩
      obtain ⟨J, hJ⟩ : ∃ J, s.jobs = J := ⟨_, rfl⟩
      rw [hn, hJ] at HRow
      rw [hJ] at HJ HR0 HLen
      rw [hn] at HLen ⊢
      have hn2 : (n : Int) = min (1020 + (M : Int)) 1024 := by omega
      have hn3 : 1020 ≤ n ∧ n ≤ 1024 := by omega
      clear hop hp hnew hol hlen hll hn hJ
      have hn4 : ((n : Int) != min (1020 + (M : Int)) 1024) = false := by rw [← hn2]; simp
      clear hn2
      go_wp2_with fail
      go_loopw [13] (fun v wr => ∃ i : Nat, i ≤ 5 ∧ v = .int .i64 (i : Int) ∧ Hid (∃ s O, Rnd J i s ∧ PN w wr O g s ∧ Rd wr A n (is (J.map (·.id))) ∧ ∀ k, Go.Mem.blk A = some k → k < wr.heap.size ∧ ¬ O k)) (fun v _ => 5 - (intOf v).toNat)
      case atStart => exact ⟨0, by omega, rfl, Lib.hid ⟨_, _, HR0.out, HP3.out, HRow.out⟩⟩
      case round =>
        obtain ⟨i, hi, rfl, hh⟩ := hrel
        obtain ⟨s1, O1, hf, hp, hrow⟩ := hh.out
        clear hh
        have HF1 := Lib.hid hf
        have HP1 := Lib.hid hp
        have HW1 := Lib.hid hrow
        clear hf hp hrow
        by_cases hlt : i < 5
        · have hiJ : i < J.length := by have := HLen.out; omega
          have HI := Lib.hid hiJ
          clear hiJ
          go_wp2_with fail
          refine (pm_ask HJ.out HI.out (by omega) HF1.out HP1.out).mono ?_
          rintro e w4 ⟨A4, c4, t, rfl, ht, htr, s4, O4, hm, hp, hs⟩
          have hrow := row_step HW1.out hs
          have HT := Lib.hid ht
          have HTR := Lib.hid htr
          have HM4 := Lib.hid hm
          have HP4 := Lib.hid hp
          have HW4 := Lib.hid hrow
          clear ht htr hm hp hs hrow
          go_wp2_with fail
          have hbx := Box.made HP4.out 30 #[.int .i64 t, .slice A4 0 c4]
          have hnw : New w4 (w4.alloc (.cells #[.int .i64 t, .slice A4 0 c4] 30)) := (Chg.refl _ _).alloc _
          have hrow := row_step HW4.out (PStep.of_new (O := O4) hnw)
          refine (pm_answer HJ.out HI.out (by omega) HTR.out HM4.out (HP4.out.new hnw)).mono ?_
          rintro e w5 ⟨rfl, s5, O5, hr5, hp5, hs5⟩
          have hbx5 := hbx.step hs5
          have hrow5 := row_step hrow hs5
          obtain ⟨ad, u, hA, hu, hcu⟩ := hrow5.1.at_ (k := i) (by omega)
          have hut : u = .int .i64 t := by
            unfold is at hu
            rw [List.getElem?_map, HT.out] at hu
            injection hu with hu
            exact hu.symm
          subst hut
          have k14 := hbx5.1.cell 0 (u := .int .i64 t) rfl
          have HR5 := Lib.hid hr5
          have HP5 := Lib.hid hp5
          have HW5 := Lib.hid hrow5
          clear hbx hnw hrow hr5 hp5 hs5 hbx5 hrow5 hu
          subst hA
          go_wp2_with fail
          go_quiet (fail)
          have hd5 : New w5 (w5.drewN nq) := (Chg.refl _ _).drewN _
          have hrow5 := row_step HW5.out (PStep.of_new (O := O5) hd5)
          have HD := Lib.hid hd5
          have HW6 := Lib.hid hrow5
          clear hd5 hrow5
          go_wp2_with fail
          exact ⟨⟨i + 1, by omega, rfl, Lib.hid ⟨_, _, HR5.out, HP5.out.new HD.out, HW6.out⟩⟩, by simp [intOf]; omega⟩
        · obtain rfl : i = 5 := by omega
          go_wp2_with fail
          refine (plives_any _).mono ?_
          rintro e w4 ⟨rfl, hn4⟩
          have HN4 := Lib.hid hn4
          clear hn4
          go_wp2_with fail
          go_ret
          exact ⟨rfl, HP1.out.was.trans HN4.out (fun _ _ h => h)⟩
end Go.Proofs.Ytbmplfhcdkeooaa
