/- Contract of refuterref36.Ask. -/
import Derived.Test.YtbmplfhcdkeooaaRpFZ
import Derived.Deep.RegionLaw
import Derived.Test.YtbmplfhcdkeooaaHeld
set_option linter.unusedSimpArgs false
set_option linter.unusedVariables false
namespace Go.Proofs.Ytbmplfhcdkeooaa
set_option linter.unusedVariables false
open Go.RowKit Go.Mem Go.Pl

theorem results_tmp4 {fn : Func} {t u v x : Tmp} (h : fn.results = #[.tmp t, .tmp u, .tmp v, .tmp x]) (tmps : Array Value) (P : Program) (w : World) : (results fn tmps).run P w = .ok (.tuple #[tmps.getD t undef, tmps.getD u undef, tmps.getD v undef, tmps.getD x undef]) w := by
  simp [results, h]
section
variable {w w' : World} {h : Nat} {al jv tv : Value} {T U : Nat → Prop} {s : S}
def takenTo (s : S) (tick : Int) (i : Nat) : List Int := ((s.tries.take i).filter (fun t => running s t tick)).map (fun t => t.task)
theorem takenTo_succ {tick : Int} {i : Nat} {y : Tr} (hy : s.tries[i]? = some y) : takenTo s tick (i + 1) = if running s y tick then takenTo s tick i ++ [y.task] else takenTo s tick i := by
  unfold takenTo
  rw [List.take_add_one, hy, List.filter_append, List.map_append]
  by_cases h : running s y tick = true
  · simp [h]
  · simp [h]
theorem takenTo_len (s : S) (tick : Int) (i : Nat) : (takenTo s tick i).length ≤ i := by
  unfold takenTo
  rw [List.length_map]
  have h1 := List.length_filter_le (fun t : Tr => running s t tick) (s.tries.take i)
  have h2 := List.length_take_le i s.tries
  omega
theorem takenTo_has {tick : Int} {i : Nat} (hi : s.tries.length ≤ i) (id : Int) : (takenTo s tick i).contains id = given s id tick := by
  unfold takenTo given
  rw [List.take_of_length_le hi, Bool.eq_iff_iff, List.contains_iff_mem, List.mem_map, List.any_eq_true]
  constructor
  · rintro ⟨t, ht, rfl⟩
    obtain ⟨h1, h2⟩ := List.mem_filter.1 ht
    exact ⟨t, h1, by simp [h2]⟩
  · rintro ⟨t, ht, h2⟩
    simp only [Bool.and_eq_true, beq_iff_eq] at h2
    exact ⟨t, List.mem_filter.2 ⟨ht, h2.2⟩, h2.1⟩
theorem RI.appTry {w7 w8 : World} {tv' : Value} {y : Tr} (hr : RI w7 h al jv tv T s) (o8 : w8.ownsRow 0 109 5 tv' (s.tries.length + 1) (triesR s.tries ++ tryR y)) (g8 : w7.grownBy w8 tv.ownBlock) (b8 : tv'.ownBlock = tv.ownBlock ∨ tv'.ownBlock = some w7.heap.size) : RI (w8.setCell ⟨h, 4, none⟩ tv') h al jv tv' T { s with tries := s.tries ++ [y] } ∧ Chg (ownR h al jv tv) w7 (w8.setCell ⟨h, 4, none⟩ tv') := by
  have c8 : Chg (fun q => tv.ownBlock = some q) w7 w8 := (Chg.refl (fun q => tv.ownBlock = some q) w7).grown g8 (fun q hq _ => hq)
  have hc : Chg (fun q => q = h) w8 (w8.setCell ⟨h, 4, none⟩ tv') := chg_one w8 h 4 tv'
  obtain ⟨⟨n1, n2, n3⟩, m1, m2⟩ := hr.ne
  have hnew : ∀ q, q < w7.heap.size → tv'.ownBlock = some q → tv.ownBlock = some q := fun q hq e => by
    rcases b8 with h1 | h1
    · rw [← h1]; exact e
    · rw [h1] at e; injection e with e; omega
  have hh := hr.blk.lt
  have hb8 := hr.blk.chg c8 (fun e => n3 e)
  have ho : w8.ownsRow 0 109 5 tv' (s.tries ++ [y]).length (triesR (s.tries ++ [y])) := by
    have e : triesR (s.tries ++ [y]) = triesR s.tries ++ tryR y := by simp [triesR]
    rw [e, List.length_append]
    exact o8
  refine ⟨⟨?_, ownN_chg (ownN_chg hr.alive c8 (fun q hq e => (m1 _ hq).2 e)) hc (fun q hq e => n1 (e ▸ hq)), (hr.jobs.chg c8 (fun q hq e => m2 _ hq e) (fun q hq e => (hr.sep q hq).2 (.inr (.inr (.inr e))))).chg hc (fun q hq e => n2 (e ▸ hq)) (fun q hq e => (hr.sep q hq).2 (.inl e)), ownN_chg ho hc (fun q hq e => n3 (hnew h hh (e ▸ hq))), fun q hq => ⟨Nat.lt_of_lt_of_le (Nat.lt_of_lt_of_le (hr.sep q hq).1 c8.size) hc.size, fun ho => ?_⟩⟩, (c8.mono (T := ownR h al jv tv) (fun q _ e => .inr (.inr (.inr e)))).setCell (p := ⟨h, 4, none⟩) (fun _ => .inl rfl) _⟩
  · have := hb8.set_ 4 tv'
    exact this
  · rcases ho with e | e | e | e
    · exact (hr.sep q hq).2 (.inl e)
    · exact (hr.sep q hq).2 (.inr (.inl e))
    · exact (hr.sep q hq).2 (.inr (.inr (.inl e)))
    · exact (hr.sep q hq).2 (.inr (.inr (.inr (hnew q (hr.sep q hq).1 e))))
def RAsk (w w' : World) (h : Nat) (al jv tv : Value) (T : Nat → Prop) (s' : S) : Prop := ∃ tv', RI w' h al jv tv' T s' ∧ Chg (ownR h al jv tv) w w' ∧ ∀ k, tv'.ownBlock = some k → tv.ownBlock = some k ∨ w.heap.size ≤ k
theorem RAsk.same (hr : RI w h al jv tv T s) (hn : New w w') : RAsk w w' h al jv tv T s := ⟨tv, hr.new hn, hn.mono (fun _ _ h => h.elim), fun k hk => .inl hk⟩
set_option maxHeartbeats 16000000 in
set_option maxRecDepth 100000 in
theorem rAsk_any (hr : RI w h al jv tv T s) (hw : WF s) (hN : s.tries.length ≤ 1000000) (worker tick : Int) : Calls Try.prog 22 #[.pointer (some ⟨h, 0, none⟩), .int .i64 worker, .int .i64 tick] w fun e w' => e = .returned (.tuple #[.int .i64 (Pl.ask s worker tick).2.id, .int .i64 (Pl.ask s worker tick).2.num, .bool (Pl.ask s worker tick).2.is, .int .i64 (Pl.ask s worker tick).2.err]) ∧ RAsk w w' h al jv tv T (Pl.ask s worker tick).1 := by
  have HR := Lib.hid hr
  have HQ := Lib.hid (rCheck_any hr hw.al.2 worker tick)
  have hbh := hr.blk.lt
  obtain ⟨R, hR⟩ : ∃ R, Pl.ask s worker tick = R := ⟨_, rfl⟩
  rw [hR]
  by_cases hc : check s worker tick = 0
  case neg =>
    rw [ask_bad hc] at hR
    subst hR
    dsimp only
    obtain ⟨C, hC⟩ : ∃ C, check s worker tick = C := ⟨_, rfl⟩
    rw [hC] at hc HQ ⊢
    have hcb : (C != 0) = true := by simpa using hc
    clear hr hc hC hw
    go_enter Try.func22, Try.ntmps22
    go_wp2_with fail
    refine HQ.out.mono ?_
    rintro e w1 ⟨rfl, hw1⟩
    subst hw1
    go_wp2_with fail
    refine bodyPost_ret (results_tmp4 rfl _ _ _) rfl ?_
    exact ⟨rfl, .same HR.out (Chg.refl _ _)⟩
  obtain ⟨hwr, htr, _⟩ := check_zero hc
  rw [hc] at HQ
  have HW := Lib.hid hw
  have HC := Lib.hid hc
  obtain ⟨k, rfl⟩ : ∃ k : Nat, worker = (k : Int) := ⟨worker.toNat, by omega⟩
  obtain ⟨n, hn⟩ : ∃ n, s.alive.length = n := ⟨_, rfl⟩
  rw [hn] at hwr
  have hkn : (k : Int) < (n : Int) := hwr.2
  obtain ⟨b, hb⟩ : ∃ b, s.alive[k]? = some b := ⟨_, List.getElem?_eq_getElem (by omega)⟩
  obtain ⟨ga, c', hv2, ka, kf⟩ := hr.al_at hb
  obtain ⟨b0, _⟩ := hr.cells
  rw [hn] at hv2
  have hgd : s.alive.getD ((k : Int)).toNat false = b := by rw [Int.toNat_natCast, List.getD_eq_getElem?_getD, hb]; rfl
  cases b with
  | false =>
    rw [ask_dead hc hgd] at hR
    subst hR
    subst hv2
    clear hr hw hn hb hgd hc
    go_enter Try.func22, Try.ntmps22
    go_wp2_with fail
    refine HQ.out.mono ?_
    rintro e w1 ⟨rfl, hw1⟩
    subst hw1
    go_wp2_with fail
    refine bodyPost_ret (results_tmp4 rfl _ _ _) rfl ?_
    exact ⟨rfl, .same HR.out (Chg.refl _ _)⟩
  | true =>
    have HGD := Lib.hid hgd
    have HRR := Lib.hid hR
    obtain ⟨A4, c4, hv4⟩ := hr.shape.2.2
    obtain ⟨m, hm⟩ : ∃ m, s.tries.length = m := ⟨_, rfl⟩
    rw [hm] at hv4 hN
    have HM := Lib.hid hm
    subst hv2 hv4
    clear hr hw hn hb hgd hc hm hR
    go_enter Try.func22, Try.ntmps22
    go_wp2_with fail
    refine HQ.out.mono ?_
    rintro e w1 ⟨rfl, hw1⟩
    subst hw1
    go_wp2_with fail
    go_loopw [11, 12] (fun tv iv wr => ∃ (i : Nat) (A : Option Addr) (q c : Nat), iv = .int .i64 (i : Int) ∧ i ≤ m ∧ tv = .slice A q c ∧ q ≤ i ∧ Hid (New w1 wr ∧ (takenTo s tick i).length = q ∧ wr.ownsRow w1.heap.size 3 1 (.slice A q c) q (is (takenTo s tick i)) ∧ (s.tries.take i).any (fun t => t.worker == (k : Int) && running s t tick) = false)) (fun _ iv _ => m - (intOf iv).toNat)
    case atStart => exact ⟨0, none, 0, 0, rfl, by omega, rfl, by omega, Lib.hid ⟨Chg.refl _ _, rfl, World.ownsRow_nil _ _ _ _, by simp⟩⟩
    case round =>
      obtain ⟨i, A, q, c, rfl, hi, rfl, hq, hh⟩ := hrel
      have hrw := HR.out.new hh.out.1
      obtain ⟨_, _, _, _, b4⟩ := hrw.cells
      have hbw := hrw.blk.lt
      by_cases hlt : i < m
      · obtain ⟨y, hy⟩ : ∃ y, s.tries[i]? = some y := ⟨_, List.getElem?_eq_getElem (by have := HM.out; omega)⟩
        obtain ⟨gt, ct, hvt, k0, k1, k2, k3, k4, _⟩ := hrw.try_at hy
        rw [HM.out] at hvt
        injection hvt with hv1 hv2 hv3
        subst hv1 hv3
        have hany := any_succ (P := fun t => t.worker == (k : Int) && running s t tick) hy
        rw [hh.out.2.2.2] at hany
        have htk := takenTo_succ (tick := tick) hy
        have HCALL := Lib.hid (rRunning_any hrw HW.out (List.mem_of_getElem? hy) tick)
        obtain ⟨ya, hya⟩ : ∃ z, y.task = z := ⟨_, rfl⟩
        obtain ⟨yn, hyn⟩ : ∃ z, y.num = z := ⟨_, rfl⟩
        obtain ⟨yw, hyw⟩ : ∃ z, y.worker = z := ⟨_, rfl⟩
        obtain ⟨yt, hyt⟩ : ∃ z, y.tick = z := ⟨_, rfl⟩
        obtain ⟨yo, hyo⟩ : ∃ z, y.over = z := ⟨_, rfl⟩
        obtain ⟨rn, hrn⟩ : ∃ z, running s y tick = z := ⟨_, rfl⟩
        rw [hrn] at HCALL hany htk
        rw [hya] at k0 HCALL htk
        rw [hyn] at k1 HCALL
        rw [hyw] at k2 HCALL hany
        rw [hyt] at k3 HCALL
        rw [hyo] at k4 HCALL
        have HANY := Lib.hid hany
        have HTK := Lib.hid htk
        have HRW := Lib.hid hrw
        have HRN := Lib.hid (show y ∈ s.tries ∧ y.worker = yw ∧ running s y tick = rn from ⟨List.mem_of_getElem? hy, hyw, hrn⟩)
        clear hy hya hyn hyw hyt hyo hrn hany htk hv2 hrw
        go_wp2_with fail
        refine HCALL.out.mono ?_
        rintro e w2 ⟨rfl, hn2⟩
        cases rn with
        | false =>
          have HN2 := Lib.hid hn2
          clear hn2
          go_wp2_with fail
          refine ⟨⟨i + 1, A, q, c, rfl, by omega, rfl, by omega, Lib.hid ⟨hh.out.1.trans HN2.out (fun _ _ h => h), ?_, ?_, ?_⟩⟩, by simp [intOf]; omega⟩
          · rw [HTK.out]; exact hh.out.2.1
          · rw [HTK.out]; exact ownN_chg hh.out.2.2.1 HN2.out (fun _ _ h => h)
          · rw [HANY.out]; simp
        | true =>
          have hrw2 := HRW.out.new hn2
          obtain ⟨_, _, _, _, b4'⟩ := hrw2.cells
          have hbw2 := hrw2.blk.lt
          have k0' := hn2.cell k0 (fun h => h)
          have k2' := hn2.cell k2 (fun h => h)
          have HN2 := Lib.hid hn2
          clear hn2 hrw2
          by_cases hyk : yw = (k : Int)
          · have hb1 : (yw == (k : Int)) = true := by rw [hyk]; simp
            have hres := HRR.out
            rw [ask_busy HC.out HGD.out (List.any_eq_true.2 ⟨y, HRN.out.1, by rw [HRN.out.2.1, HRN.out.2.2, hyk]; simp⟩)] at hres
            subst hres
            clear hyk
            go_wp2_with fail
            refine bodyPost_ret (results_tmp4 rfl _ _ _) rfl ?_
            exact ⟨rfl, .same HR.out (hh.out.1.trans HN2.out (fun _ _ h => h))⟩
          · have hb1 : (yw == (k : Int)) = false := by rw [beq_eq_false_iff_ne]; exact hyk
            obtain ⟨w3, hw3⟩ : ∃ w3, w2.alloc (.cells #[.int .i64 ya] 3) = w3 := ⟨_, rfl⟩
            obtain ⟨B, hB⟩ : ∃ B, w2.heap.size = B := ⟨_, rfl⟩
            have hn3 : New w2 w3 := by rw [← hw3]; exact (Chg.refl _ _).alloc _
            have hr3 : Rd w3 (some ⟨B, 0, none⟩) 1 [.int .i64 ya] := by rw [← hw3, ← hB]; exact Rd.one
            have hnw : New w1 w3 := (hh.out.1.trans HN2.out (fun _ _ h => h)).trans hn3 (fun _ _ h => h)
            have ho3 := ownN_chg (ownN_chg hh.out.2.2.1 HN2.out (fun _ _ h => h)) hn3 (fun _ _ h => h)
            have HO3 := Lib.hid ho3
            have HR3 := Lib.hid hr3
            have HN3 := Lib.hid hnw
            have HHB := Lib.hid hb1
            clear hyk hn3 hr3 hnw ho3
            go_wp2_with (at_builtin; refine wpList_app (base := w1.heap.size) elemInts rfl _ _ rfl rfl HO3.out rfl HR3.out (by simp [Value.oneCell']) (by simp only [maxLen]; omega) (by omega) HN3.out.size ?_; intro A14 c14 w14 hown14 hg14 hat14; have HO14 := Lib.hid (And.intro hown14 hg14); clear hown14 hg14 hat14)
            refine ⟨⟨i + 1, A14, q + 1, c14, rfl, by omega, rfl, by omega, Lib.hid ⟨?_, ?_, ?_, ?_⟩⟩, by simp [intOf]; omega⟩
            · exact HN3.out.grown HO14.out.2 (fun x hx hlt => by have := (ownN_lt HO3.out (show (Value.slice A q c).ownBlock = some x by rw [ownBlock_slice]; exact hx)).1; omega)
            · rw [HTK.out, if_pos (by first | rfl | trivial), List.length_append, hh.out.2.1]; rfl
            · have e : is (takenTo s tick (i + 1)) = is (takenTo s tick i) ++ [.int .i64 ya] := by rw [HTK.out, if_pos (by first | rfl | trivial)]; simp [is]
              rw [e]
              exact HO14.out.1
            · rw [HANY.out, HHB.out]; rfl
      · obtain rfl : i = m := by omega
        have hworks : works s (k : Int) tick = false := by
          have := hh.out.2.2.2
          rw [List.take_of_length_le (by rw [HM.out]; exact Nat.le_refl _)] at this
          exact this
        have HWK := Lib.hid hworks
        have hgv : ∀ id, (takenTo s tick i).contains id = given s id tick := fun id => takenTo_has (by rw [HM.out]; exact Nat.le_refl _) id
        have HGV := Lib.hid hgv
        obtain ⟨tk, htk⟩ : ∃ tk, takenTo s tick i = tk := ⟨_, rfl⟩
        have hho := hh.out
        rw [htk] at hgv hho
        have HGV := Lib.hid hgv
        obtain ⟨_, _, b2, b3, _⟩ := hrw.cells
        have bf2 := hrw.blk.frozen 2
        have hr2 := hrw.setTick tick
        obtain ⟨w2, hw2⟩ : ∃ w2, wr.setCell ⟨h, 2, none⟩ (.int .i64 tick) = w2 := ⟨_, rfl⟩
        rw [hw2] at hr2
        have hc2 : Chg (ownR h (.slice (some ⟨ga, 0, none⟩) n c') jv (.slice A4 i c4)) w1 w2 := by rw [← hw2]; exact (hho.1.mono (fun _ _ h => h.elim)).setCell (p := ⟨h, 2, none⟩) (fun _ => .inl rfl) _
        have ho2 : w2.ownsRow w1.heap.size 3 1 (.slice A q c) q (is tk) := by rw [← hw2]; exact ownN_chg hho.2.2.1 (chg_one wr h 2 _) (fun x hx e => by have := (ownN_lt hho.2.2.1 hx).1; omega)
        obtain ⟨A3, c3, hv3, hj1, hj2⟩ := hrw.shape.2.1
        obtain ⟨jn, hjn⟩ : ∃ jn, s.jobs.length = jn := ⟨_, rfl⟩
        have hjl := HW.out.len
        rw [hjn] at hv3 hj1 hjl
        have HJN := Lib.hid hjn
        have H2 := Lib.hid (And.intro hr2 (And.intro hc2 ho2))
        obtain ⟨_, _, _, b3', b4'⟩ := hr2.cells
        have hb2 := hr2.blk.lt
        subst hv3
        clear hworks hgv htk hho hh hrw hr2 hc2 ho2 hjn
        go_wp2_with fail
        go_loopw [13] (fun v wx => ∃ r : Nat, v = .int .i64 (r : Int) ∧ r ≤ jn ∧ Hid (New w2 wx ∧ ∀ (z : Nat), z < r → ∀ x, s.jobs[z]? = some x → free s tick x = false)) (fun v _ => jn - (intOf v).toNat)
        case atStart => exact ⟨0, rfl, by omega, Lib.hid ⟨Chg.refl _ _, fun z hz => by omega⟩⟩
        case round =>
          obtain ⟨r, rfl, hr, hh⟩ := hrel
          have hrw := H2.out.1.new hh.out.1
          obtain ⟨_, _, _, c3', c4'⟩ := hrw.cells
          have hbw := hrw.blk.lt
          have hrf4 := hrw.blk.frozen 4
          by_cases hrn : r < jn
          · obtain ⟨j, hj⟩ : ∃ j, s.jobs[r]? = some j := ⟨_, List.getElem?_eq_getElem (by rw [HJN.out]; exact hrn)⟩
            obtain ⟨gj, cj, bv, av, hvj, _, _, q0, _, q2, q3, _, _, _, qf⟩ := hrw.jobs.at_ hj
            have qf2 := qf 2 (by omega)
            have hvj9 := hvj
            dsimp only at hvj
            rw [HJN.out] at hvj
            injection hvj with hv1 hv2 hv3
            subst hv1 hv3
            have hfree : free s tick j = (!j.ans.isSome && !given s j.id tick) := by unfold free; cases j.ans <;> rfl
            obtain ⟨jid, hjid⟩ : ∃ x, j.id = x := ⟨_, rfl⟩
            rw [hjid] at q0 hfree
            have hnext : free s tick j = false → ∀ (z : Nat), z < r + 1 → ∀ x, s.jobs[z]? = some x → free s tick x = false := fun hf z hz x hx => by
              by_cases e : z = r
              · subst e
                obtain rfl : j = x := Option.some.inj (hj.symm.trans hx)
                exact hf
              · exact hh.out.2 z (by omega) x hx
            have HNX := Lib.hid hnext
            have HFR := Lib.hid hfree
            have HJJ := Lib.hid (And.intro hj hjid)
            clear hnext hfree
            cases ha : j.ans.isSome with
            | true =>
              rw [ha] at q3 HFR
              have HNX2 := Lib.hid (HNX.out (by rw [HFR.out]; simp))
              clear hj hjid hv2 hvj9 hrw ha
              go_wp2_with fail
              exact ⟨⟨r + 1, rfl, by omega, Lib.hid ⟨hh.out.1, HNX2.out⟩⟩, by simp [intOf]; omega⟩
            | false =>
              rw [ha] at q3 HFR
              have HHAS := Lib.hid (has_any A q c tk jid wr (Rd.of_own (ownN_chg H2.out.2.2 hh.out.1 (fun _ _ h => h))) (by omega))
              rw [HGV.out] at HHAS
              obtain ⟨gb, hgb⟩ : ∃ z, given s jid tick = z := ⟨_, rfl⟩
              rw [hgb] at HHAS HFR
              have HRW := Lib.hid hrw
              have HVJ := Lib.hid hvj9
              clear hj hjid hv2 hvj9 hrw ha hgb
              go_wp2_with fail
              refine HHAS.out.mono ?_
              rintro e w5 ⟨rfl, hn5⟩
              cases gb with
              | true =>
                have HNX2 := Lib.hid (HNX.out (by rw [HFR.out]; simp))
                have HN5 := Lib.hid hn5
                clear hn5
                go_wp2_with fail
                exact ⟨⟨r + 1, rfl, by omega, Lib.hid ⟨hh.out.1.trans HN5.out (fun _ _ h => h), HNX2.out⟩⟩, by simp [intOf]; omega⟩
              | false =>
                have hr5 := HRW.out.new hn5
                obtain ⟨_, _, _, d3, d4⟩ := hr5.cells
                have hb5 := hr5.blk.lt
                have p0 := hn5.cell q0 (fun h => h)
                have p2 := hn5.cell q2 (fun h => h)
                have pf2 : w5.frozen? ⟨gj, r * 7 + 2, none⟩ = false := by
                  obtain ⟨_, _, _, _, hv', _, _, _, _, _, _, _, _, _, qf'⟩ := hr5.jobs.at_ HJJ.out.1
                  rw [HVJ.out] at hv'
                  injection hv' with hv'
                  injection hv' with hv'
                  injection hv' with hv'
                  subst hv'
                  exact qf' 2 (by omega)
                have hjnum := (HW.out.num j (List.mem_of_getElem? HJJ.out.1)).1
                have hjn1 : j.n ≤ 1000000 := by
                  have h4 : (triesOf s j.id).length ≤ s.tries.length := List.length_filter_le _ _
                  have := HM.out
                  omega
                have hr6 := hr5.setN (k := r) (j := j) HVJ.out HJJ.out.1
                dsimp only at hr6
                obtain ⟨jnn, hjnn⟩ : ∃ z, j.n = z := ⟨_, rfl⟩
                have HJN2 := Lib.hid hjnn
                have hchg6 := chg_one w5 gj (r * 7 + 2) (.int .i64 ((j.n : Int) + 1))
                rw [hjnn] at p2 hjn1 hchg6
                obtain ⟨w6, hw6⟩ : ∃ w6, w5.setCell ⟨gj, r * 7 + 2, none⟩ (.int .i64 ((jnn : Int) + 1)) = w6 := ⟨_, rfl⟩
                rw [hjnn, hw6] at hr6
                rw [hw6] at hchg6
                obtain ⟨_, _, _, d3', d4'⟩ := hr6.cells
                have hb6 := hr6.blk.lt
                have hbf6 := hr6.blk.frozen 4
                have p0' : w6.cell? ⟨gj, r * 7, none⟩ = some (.int .i64 jid) := by
                  obtain ⟨gj', _, _, _, hv', _, _, q0', _⟩ := hr6.jobs.at_ (i := r) (j := { j with n := jnn + 1 }) (by rw [List.getElem?_set, if_pos rfl, if_pos (by have := HJN.out; omega)])
                  injection hv' with hv'
                  injection hv' with hv'
                  injection hv' with hv'
                  subst hv'
                  rw [← HJJ.out.2]
                  exact q0'
                have H6 := Lib.hid (And.intro hr6 hchg6)
                have HN5 := Lib.hid hn5
                clear hr5 hr6 hchg6 hn5 hjnum hjnn
                go_upto_region 21 with fail
                obtain ⟨w7, hw7⟩ : ∃ w7, w6.drew.alloc (.cells #[.int .i64 jid, .int .i64 (jnn : Int), .int .i64 (k : Int), .int .i64 tick, .bool false] 109) = w7 := ⟨_, rfl⟩
                obtain ⟨G, hG⟩ : ∃ G, w6.heap.size = G := ⟨_, rfl⟩
                have hn7 : New w6 w7 := by rw [← hw7]; exact ((Chg.refl _ _).drew).alloc _
                have hb7 : Blk w7 G 109 #[.int .i64 jid, .int .i64 (jnn : Int), .int .i64 (k : Int), .int .i64 tick, .bool false] := by rw [← hw7, ← hG]; exact Blk.new w6.drew _ _
                have hr7 := H6.out.1.new hn7
                have k74 : w7.cell? ⟨h, 4, none⟩ = some (.slice A4 i c4) := hn7.cell d4' (fun h => h)
                have kl7 : h < w7.heap.size := by have := hn7.size; omega
                have hrd : RdN w7 (some ⟨G, 0, none⟩) 5 1 (tryR ⟨jid, (jnn : Int), (k : Int), tick, false⟩) := ⟨rfl, fun _ => ⟨_, rfl, fun x u hu => by rw [Addr.add_lit, Nat.zero_add]; exact hb7.cell x (by simpa [tryR] using hu)⟩⟩
                have hr7t := hr7.tries
                dsimp only at hr7t
                rw [HM.out] at hr7t
                obtain ⟨tv8, w8, hrun, o8, g8, b8⟩ := run_appN (c := 1) elemTries 102 hr7t hrd (by simp [tryR, Value.oneCell']) (by simp only [maxLen]; omega) (by omega) (Nat.zero_le _)
                obtain ⟨A8, c8, hv8, _⟩ := ownN_shape o8
                subst hv8
                have c78 : Chg (fun q => (Value.slice A4 i c4).ownBlock = some q) w7 w8 := (Chg.refl (fun q => (Value.slice A4 i c4).ownBlock = some q) w7).grown g8 (fun q hq _ => hq)
                have hfin := hr7.appTry (tv' := .slice A8 (i + 1) c8) (y := ⟨jid, (jnn : Int), (k : Int), tick, false⟩) (w8 := w8) (by dsimp only; rw [HM.out]; exact o8) g8 b8
                have hb8 := hr7.blk.chg c78 (fun e => hr7.ne.1.2.2 e)
                have k84 := hb8.cell 4 (u := .slice A4 i c4) rfl
                have kf8 := hb8.frozen 4
                have kl8 := hb8.lt
                have HFIN := Lib.hid (And.intro hfin hn7)
                have HB8 := Lib.hid (show ∀ x, (Value.slice A8 (i + 1) c8).ownBlock = some x → (Value.slice A4 i c4).ownBlock = some x ∨ w1.heap.size ≤ x from fun x hx => by
                  rcases b8 with h1 | h1
                  · exact .inl (by rw [← h1]; exact hx)
                  · rw [h1] at hx
                    injection hx with hx
                    have z1 := H2.out.2.1.size
                    have z2 := hh.out.1.size
                    have z3 := HN5.out.size
                    have z4 := H6.out.2.size
                    have z5 := hn7.size
                    exact .inr (by omega))
                clear hn7 hb7 hr7 hrd hr7t o8 g8 b8 c78 hfin hb8
                obtain ⟨w9, hw9⟩ : ∃ w9, w8.setCell ⟨h, 4, none⟩ (.slice A8 (i + 1) c8) = w9 := ⟨_, rfl⟩
                rw [hw9] at HFIN
                have hres := HRR.out
                rw [ask_some HC.out HGD.out HWK.out (next_of HJJ.out.1 (by rw [HFR.out]; rfl) (fun z hz x hx => hh.out.2 z hz x hx)) HJJ.out.1] at hres
                subst hres
                have hown : (Value.slice (some ⟨gj, 0, none⟩) jn c3).ownBlock = some gj := rfl
                have HE := Lib.hid (show RAsk w1 w9 h (.slice (some ⟨ga, 0, none⟩) n c') (.slice (some ⟨gj, 0, none⟩) jn c3) (.slice A4 i c4) T (giveOut s (k : Int) tick r j) from by
                  refine ⟨.slice A8 (i + 1) c8, ?_, ?_, HB8.out⟩
                  · have := HFIN.out.1.1
                    rw [← HJN2.out, ← HJJ.out.2] at this
                    exact this
                  · have q1 := ((H2.out.2.1.trans hh.out.1 (fun _ _ h => h.elim)).trans HN5.out (fun _ _ h => h.elim)).trans H6.out.2 (fun x _ e => .inr (.inr (.inl (by rw [e, hown]))))
                    exact (q1.trans HFIN.out.2 (fun _ _ h => h.elim)).trans HFIN.out.1.2 (fun _ _ h => h))
                have hri9 := HFIN.out.1.1
                obtain ⟨_, _, _, e3, _⟩ := hri9.cells
                have hb9 := hri9.blk.lt
                have p9 : w9.cell? ⟨gj, r * 7, none⟩ = some (.int .i64 jid) := by
                  obtain ⟨gj', _, _, _, hv', _, _, q0', _⟩ := hri9.jobs.at_ (i := r) (j := { j with n := jnn + 1 }) (by rw [List.getElem?_set, if_pos rfl, if_pos (by have := HJN.out; omega)])
                  injection hv' with hv'
                  injection hv' with hv'
                  injection hv' with hv'
                  subst hv'
                  rw [← HJJ.out.2]
                  exact q0'
                clear hri9 hown
                go_region_law (first | (refine step_appN rfl _ _ _ rfl rfl rfl hrun ?_))
                all_goals (go_wp2_with fail; refine bodyPost_ret (results_tmp4 rfl _ _ _) rfl ?_; refine ⟨?_, HE.out⟩; show Ending.returned (.tuple #[.int .i64 jid, .int .i64 (jnn : Int), .bool true, .int .i64 0]) = Ending.returned (.tuple #[.int .i64 j.id, .int .i64 (j.n : Int), .bool true, .int .i64 0]); rw [HJJ.out.2, HJN2.out])
          · obtain rfl : r = jn := by omega
            have hres := HRR.out
            rw [ask_none HC.out HGD.out HWK.out (next_all (fun x hx => by
              obtain ⟨z, hz⟩ := List.getElem?_of_mem hx
              exact hh.out.2 z (by have := (List.getElem?_eq_some_iff.1 hz).1; have := HJN.out; omega) x hz))] at hres
            subst hres
            have HE := Lib.hid (show RAsk w1 wr h (.slice (some ⟨ga, 0, none⟩) n c') (.slice A3 r c3) (.slice A4 i c4) T { s with tick := tick } from ⟨_, hrw, H2.out.2.1.trans hh.out.1 (fun _ _ h => h.elim), fun _ hk => .inl hk⟩)
            clear hrw
            go_wp2_with fail
            refine bodyPost_ret (results_tmp4 rfl _ _ _) rfl ?_
            exact ⟨rfl, HE.out⟩
end
end Go.Proofs.Ytbmplfhcdkeooaa
