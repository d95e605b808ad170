/- Contract of pool: Answer. -/
import Derived.Test.YtbmplfhcdkeooaaPlIZ
set_option linter.unusedSimpArgs false
set_option linter.unusedVariables false
namespace Go.Proofs.Ytbmplfhcdkeooaa
set_option linter.unusedVariables false
open Go.RowKit Go.Mem Go.Pl

def AnsP (w w' : World) (g m : Nat) (dv : Value) (V : Int → Loc) (T : Nat → Prop) (s : S) (r : S × Bool × Int) (e : Ending) : Prop :=
  e = .returned (.tuple #[.bool r.2.1, .int .i64 r.2.2]) ∧ ∃ V', PI w' g m dv V' (TP w w' g m dv V' T r.1) r.1 ∧ DidP w w' g m dv V V' s r.1
theorem AnsP.same {w w' : World} {g m : Nat} {dv : Value} {V : Int → Loc} {T : Nat → Prop} {s : S} (h : PI w g m dv V T s) (hn : New w w') {b : Bool} {c : Int} {e : Ending} (he : e = .returned (.tuple #[.bool b, .int .i64 c])) : AnsP w w' g m dv V T s (s, b, c) e := by
  obtain ⟨q1, q2⟩ := h.same hn
  exact ⟨he, V, q1, q2⟩
theorem PI.answered {w w' : World} {g m : Nat} {dv : Value} {V : Int → Loc} {T : Nat → Prop} {s : S} (h : PI w g m dv V T s) {k : Nat} {j : Job} (hj : s.jobs[k]? = some j) {worker num tick : Int} {l : List UInt8} {av : Value} (hwf : WF (setAns s k j ⟨worker, num, l⟩ tick)) (hc : Chg (fun x => x = g ∨ x = (V j.id).tb) w w') (hg : Blk w' g 89 (pCells { s with tick := tick } dv m))
    (ht : Blk w' (V j.id).tb 94 #[(V j.id).bv, (V j.id).tv, .int .i64 j.id, .int .i64 worker, .int .i64 num, av, .bool true]) (ha : ByT w' (fun x => w.heap.size ≤ x) av l) :
    ∃ V', PI w' g m dv V' (TP w w' g m dv V' T (setAns s k j ⟨worker, num, l⟩ tick)) (setAns s k j ⟨worker, num, l⟩ tick) ∧ DidP w w' g m dv V V' s (setAns s k j ⟨worker, num, l⟩ tick) := by
  have hjm := List.mem_of_getElem? hj
  obtain ⟨a1, a2, a3⟩ := h.apart
  have hrow : w'.ownsRow 0 100 3 (V j.id).tv j.n (trsV (triesOf s j.id)) := ownN_chg (h.tries j hjm) hc (fun x hx e => by
    rcases e with e | e
    · subst e; exact (a1 j hjm).2.1 hx
    · subst e; exact a3 j hjm j hjm hx)
  have hold : ∀ x, (V j.id).tv.ownBlock = some x → x < w.heap.size := fun x hx => h.lt (.inr (.inr (.inr ⟨j, hjm, .inr hx⟩)))
  obtain ⟨V', hv, q1, q2⟩ := h.put (s' := setAns s k j ⟨worker, num, l⟩ tick) (j' := { j with ans := some ⟨worker, num, l⟩ }) (L' := { V j.id with av := av }) hj rfl rfl rfl (fun i hi => rfl) hwf (hc.mono (fun x _ e => by
      rcases e with e | e
      · exact .inl e
      · exact .inr (.inl e))) hg rfl ht ((h.body j hjm).chg hc (fun x hx e => (h.sep x hx).2 (by
      rcases e with e | e
      · exact .inl e
      · exact .inr (.inr (.inr ⟨j, hjm, .inl e⟩)))) |>.up (fun x _ hx => .inl hx)) hrow (fun x hx => .inl hx) (ha.up (fun x _ hx => .inr ⟨hx, fun e => by have := hold x e; omega⟩))
  exact ⟨V', q1, q2⟩
set_option maxHeartbeats 4000000 in
set_option maxRecDepth 100000 in
theorem plAnswer_any (g m : Nat) (dv : Value) (V : Int → Loc) (T : Nat → Prop) (s : S) (w : World) (h : PI w g m dv V T s) (task worker num tick : Int) (htask : Go.Mem.I64 task) (hnum : Go.Mem.I64 num) (A : Option Addr) (n c : Nat) (l : List UInt8) (hr : Rd w A n (bs l)) (hn : n ≤ 1000000000) (hA : ∀ k, Go.Mem.blk A = some k → ¬ ownP g m dv V s k) :
    Calls Try.prog 15 #[.pointer (some ⟨g, 0, none⟩), .agg #[.int .i64 task, .int .i64 worker, .int .i64 num, .slice A n c], .int .i64 tick] w fun e w' => AnsP w w' g m dv V T s (answer s task worker num l tick) e := by
  have hl : l.length = n := by simpa using hr.len
  obtain ⟨W1, hW1⟩ : ∃ W1, w.alloc (.cells #[.int .i64 task, .int .i64 worker, .int .i64 num, .slice A n c] 38) = W1 := ⟨_, rfl⟩
  have hN1 : New w W1 := by rw [← hW1]; exact (Chg.refl _ w).alloc _
  have hb0 : Blk W1 w.heap.size 38 #[.int .i64 task, .int .i64 worker, .int .i64 num, .slice A n c] := by rw [← hW1]; exact Blk.new _ _ _
  have hp1 := h.new hN1
  have b0 := hb0.cell 0 (u := .int .i64 task) rfl
  have b1 := hb0.cell 1 (u := .int .i64 worker) rfl
  have b2 := hb0.cell 2 (u := .int .i64 num) rfl
  have b3 := hb0.cell 3 (u := .slice A n c) rfl
  have hbl := hb0.lt
  have hc3 := hp1.blk.cell 3 (u := .map (some m)) rfl
  have hgl := hp1.blk.lt
  have HH := Lib.hid h
  have HP1 := Lib.hid hp1
  have HN1 := Lib.hid hN1
  have HW1 := Lib.hid hW1
  have HL := Lib.hid hl
  have HR := Lib.hid hr
  have HB0 := Lib.hid hb0
  have HCK := Lib.hid (plChecked_any g m dv V T s W1 hp1 worker tick)
  obtain ⟨ck, hck⟩ : ∃ ck, check s worker tick = ck := ⟨_, rfl⟩
  rw [hck] at HCK
  by_cases h0 : ck = 0
  case neg =>
    have e : answer s task worker num l tick = (s, false, ck) := by rw [answer_bad (by omega), hck]
    rw [e]
    have hne : (ck != 0) = true := by simp [h0]
    clear h hp1 hN1 hb0 hW1 hl hr e hck
    go_enter Try.func15, Try.ntmps15
    go_wp2_with (go_at_call 47; rw [HW1.out]; refine HCK.out.mono ?_; rintro e w2 ⟨rfl, rfl⟩)
    go_ret2
    exact AnsP.same HH.out HN1.out rfl
  subst h0
  obtain ⟨hw, ht, htk⟩ := check_zero hck
  cases hf : findJ s.jobs task with
  | none =>
    have e : answer s task worker num l tick = (s, false, 7) := answer_none hck hf
    rw [e]
    have hlk := (hp1.map.chg ((Chg.refl (fun _ => False) W1).drew) (fun h => h)).look keyIntP Try.underlying87 (zeroTask _) htask true
    rw [lk_entP_none (findJ_none hf)] at hlk
    simp only [if_true, Option.getD_none, Option.isSome_none] at hlk
    clear h hp1 hN1 hb0 hW1 hl hr e hck hf
    go_enter Try.func15, Try.ntmps15
    go_wp2_with (go_at_call 47; rw [HW1.out]; refine HCK.out.mono ?_; rintro e w2 ⟨rfl, rfl⟩)
    go_region
    go_wp2
    go_ret2
    exact AnsP.same HH.out HN1.out.drew rfl
  | some k =>
    obtain ⟨j, hj, hid⟩ := findJ_some hf
    subst hid
    have hjm := List.mem_of_getElem? hj
    have hlk := (hp1.map.chg ((Chg.refl (fun _ => False) W1).drew) (fun h => h)).look keyIntP Try.underlying87 (zeroTask _) htask true
    rw [lk_entP_some h.wf hjm] at hlk
    simp only [if_true, Option.getD_some, Option.isSome_some] at hlk
    have htkb := hp1.task j hjm
    obtain ⟨At, ct, hv, hnc, hcm, _⟩ := ownN_shape (hp1.tries j hjm)
    have hown := hp1.tries j hjm
    rw [hv] at hown
    have q1 := htkb.cell 1 (u := (V j.id).tv) rfl
    rw [hv] at q1
    have htl := htkb.lt
    have htn := (h.wf.num j hjm).1
    obtain ⟨q, hq⟩ : ∃ q, j.n = q := ⟨_, rfl⟩
    rw [hq] at q1 hown hnc htn
    unfold maxLen at hcm
    cases hkn : known s j.id worker num with
    | false =>
      have e : answer s j.id worker num l tick = (s, false, 22) := answer_stale hck hf hkn
      rw [e]
      have hkn' : ∀ (i : Nat) (t : Tr), num = (i : Int) → (triesOf s j.id)[i]? = some t → t.worker ≠ worker := fun i t h1 h2 h3 => by
        have := (known_at h.wf hjm worker num).2 ⟨i, t, h1, h2, h3⟩
        rw [hkn] at this
        cases this
      have hng : w.heap.size ≠ (V j.id).tb := by have := (h.task j hjm).lt; omega
      generalize (V j.id).tb = tb at *
      by_cases h1 : num < 0
      · have hd1 : decide (num < 0) = true := by simpa using h1
        clear h hp1 hN1 hb0 hW1 hl hr e hck hf hj hjm hkn hkn' htkb hown htn hq hv
        go_enter Try.func15, Try.ntmps15
        go_wp2_with (go_at_call 47; rw [HW1.out]; refine HCK.out.mono ?_; rintro e w2 ⟨rfl, rfl⟩)
        go_region
        go_wp2
        go_quiet (fail)
        all_goals go_wp2
        all_goals go_ret2
        all_goals first | exact AnsP.same HH.out (HN1.out.drew.drewN _) rfl | exact AnsP.same HH.out (HN1.out.drewN _) rfl
      · have h1' : 0 ≤ num := by omega
        have hd1 : decide (num < 0) = false := by simpa using h1
        obtain ⟨x, rfl⟩ : ∃ x : Nat, num = (x : Int) := ⟨num.toNat, by omega⟩
        by_cases h2 : q ≤ x
        · have hd2 : decide (q ≤ x) = true := by simpa using h2
          have h2' : (q : Int) ≤ (x : Int) := by omega
          clear h hp1 hN1 hb0 hW1 hl hr e hck hf hj hjm hkn hkn' htkb hown htn hq hv
          go_enter Try.func15, Try.ntmps15
          go_wp2_with (go_at_call 47; rw [HW1.out]; refine HCK.out.mono ?_; rintro e w2 ⟨rfl, rfl⟩)
          go_region
          go_wp2
          go_quiet (fail)
          all_goals go_wp2
          all_goals go_ret2
          all_goals first | exact AnsP.same HH.out (HN1.out.drew.drewN _) rfl | exact AnsP.same HH.out (HN1.out.drewN _) rfl

        · have hd2 : decide (q ≤ x) = false := by simpa using h2
          have h2' : (x : Int) < (q : Int) := by omega
          obtain ⟨t, hx⟩ : ∃ t, (triesOf s j.id)[x]? = some t := ⟨_, List.getElem?_eq_getElem (by rw [htn]; omega)⟩
          obtain ⟨t0, _, _⟩ := trsV_at hx
          obtain ⟨ga, rfl, c0, _⟩ := ownN_cell hown t0
          have hwn : (t.worker != worker) = true := by simp [hkn' x t rfl hx]
          have hgal := World.block_lt_of_cell? _ _ c0
          clear h hp1 hN1 hb0 hW1 hl hr e hck hf hj hjm hkn hkn' htkb hown htn hq hv hx t0
          go_enter Try.func15, Try.ntmps15
          go_wp2_with (go_at_call 47; rw [HW1.out]; refine HCK.out.mono ?_; rintro e w2 ⟨rfl, rfl⟩)
          go_region
          go_wp2
          go_quiet (fail)
          all_goals go_wp2
          all_goals go_ret2
          all_goals first | exact AnsP.same HH.out (HN1.out.drew.drewN _) rfl | exact AnsP.same HH.out (HN1.out.drewN _) rfl

    | true =>
      obtain ⟨x, t, rfl, hx, hwe⟩ := (known_at h.wf hjm worker num).1 hkn
      have h1' : (0 : Int) ≤ (x : Int) := by omega
      have hd1 : decide ((x : Int) < 0) = false := by simp
      have hxq : x < q := by rw [← htn]; exact (List.getElem?_eq_some_iff.1 hx).1
      have hd2 : decide (q ≤ x) = false := by simpa using hxq
      have h2' : (x : Int) < (q : Int) := by omega
      obtain ⟨t0, _, _⟩ := trsV_at hx
      obtain ⟨ga, rfl, c0, _⟩ := ownN_cell hown t0
      rw [hwe] at c0
      have hwn : (worker != worker) = false := by simp
      have hgal := World.block_lt_of_cell? _ _ c0
      have hng : w.heap.size ≠ (V j.id).tb := by have := (h.task j hjm).lt; omega
      have hngg : w.heap.size ≠ g := by have := h.blk.lt; omega
      obtain ⟨a1, a2, a3⟩ := hp1.apart
      have hgt : g ≠ (V j.id).tb := fun e => (a1 j hjm).1 e.symm
      have hf2 := hp1.blk.frozen 2
      have hg2 := hp1.blk.cell 2 (u := .int .i64 s.tick) rfl
      by_cases h3 : 65536 < n
      · have e : answer s j.id worker (x : Int) l tick = (s, false, 4) := answer_limit hck hf hkn (by omega)
        rw [e]
        have h3' : (65536 : Int) < (n : Int) := by omega
        generalize (V j.id).tb = tb at *
        clear h hp1 hN1 hb0 hW1 hl hr e hck hf hj hjm hkn htkb hown htn hq hv hx t0 a1 a2 a3 hA
        go_enter Try.func15, Try.ntmps15
        go_wp2_with (go_at_call 47; rw [HW1.out]; refine HCK.out.mono ?_; rintro e w2 ⟨rfl, rfl⟩)
        go_region
        go_wp2
        go_quiet (fail)
        all_goals go_wp2
        all_goals go_ret2
        all_goals first | exact AnsP.same HH.out (HN1.out.drew.drewN _) rfl | exact AnsP.same HH.out (HN1.out.drewN _) rfl
      have h3' : (n : Int) ≤ 65536 := by omega
      have q6 := htkb.cell 6 (u := .bool j.ans.isSome) rfl
      cases hd : j.ans.isSome with
      | true =>
        have e : answer s j.id worker (x : Int) l tick = ({ s with tick := tick }, false, 0) := answer_late hck hf hkn (by omega) hj hd
        rw [e]
        rw [hd] at q6
        have HWF := Lib.hid (h.wf.tick ht.1 ht.2)
        generalize (V j.id).tb = tb at *
        clear h hp1 hN1 hb0 hW1 hl hr e hck hf hj hjm hkn htkb hown htn hq hv hx t0 a1 a2 a3 hA hd
        go_enter Try.func15, Try.ntmps15
        go_wp2_with (go_at_call 47; rw [HW1.out]; refine HCK.out.mono ?_; rintro e w2 ⟨rfl, rfl⟩)
        go_region
        go_wp2
        go_quiet (fail)
        go_wp2
        go_ret2
        have hcg : Chg (fun x => x = g) w ((W1.drewN (1 + nq)).setCell ⟨g, 2, none⟩ (.int .i64 tick)) := (((HN1.out.drewN (1 + nq)).mono (fun _ _ hf => hf.elim) : Chg (fun x => x = g) w _)).setCell (p := ⟨g, 2, none⟩) (fun _ => rfl) _
        have hbg : Blk ((W1.drewN (1 + nq)).setCell ⟨g, 2, none⟩ (.int .i64 tick)) g 89 (pCells { s with tick := tick } dv m) := ((HH.out.blk.chg HN1.out (fun h => h)).drewN (1 + nq)).set_ 2 _
        obtain ⟨q1, q2⟩ := HH.out.flags (s' := { s with tick := tick }) rfl rfl HWF.out (hcg.mono (fun _ _ e => .inl e)) hbg (HH.out.dead.chg hcg (fun x hx e => HH.out.apart.2.1 (by subst e; exact hx)))
        exact ⟨rfl, V, q1, q2⟩
      | false =>
        have e : answer s j.id worker (x : Int) l tick = (setAns s k j ⟨worker, (x : Int), l⟩ tick, true, 0) := answer_first hck hf hkn (by omega) hj hd
        have hwf := h.wf.answer j.id worker (x : Int) l tick hnum.2
        rw [e] at hwf ⊢
        have hdn : j.ans = none := by cases hz : j.ans with | none => rfl | some a => rw [hz] at hd; cases hd
        rw [hd] at q6
        have htc : tCells j (V j.id) = #[(V j.id).bv, (V j.id).tv, .int .i64 0, .int .i64 0, .int .i64 0, (V j.id).av, .bool false] := by
          unfold tCells ansT ansW ansN
          rw [hdn]
          rfl
        rw [htc] at htkb
        have HTK := Lib.hid htkb
        have HJ := Lib.hid hj
        have HWF := Lib.hid hwf
        have HAA := Lib.hid hA
        have HTL := Lib.hid (show (V j.id).tb < w.heap.size from (h.task j hjm).lt)
        have HGL := Lib.hid (show g < w.heap.size from h.blk.lt)
        have HQ := Lib.hid (show ∀ W', Rd W' A n (bs l) → Calls Try.prog 45 #[.slice A n c] W' fun e w' => ∃ A' c', e = .returned (.slice A' n c') ∧ ByT w' (fun k => W'.heap.size ≤ k) (.slice A' n c') l ∧ New W' w' from fun W' hW => plCopied_any A n c l W' hW hn)
        obtain ⟨tb, htb⟩ : ∃ tb, (V j.id).tb = tb := ⟨_, rfl⟩
        have HTB := Lib.hid htb
        rw [htb] at q1 q6 htl hng hgt hlk HTK HTL
        clear h hp1 hN1 hb0 hW1 hl hr e hck hf hj hjm hkn htkb hown htn hq hv hx t0 a1 a2 a3 hA hd hwf hdn htc htb
        go_enter Try.func15, Try.ntmps15
        go_wp2_with (go_at_call 47; rw [HW1.out]; refine HCK.out.mono ?_; rintro e w2 ⟨rfl, rfl⟩)
        go_region
        go_wp2
        go_quiet (fail)
        go_wp2_with fail
        obtain ⟨W2, hW2⟩ : ∃ W2, (W1.drewN (1 + nq)).setCell ⟨g, 2, none⟩ (.int .i64 tick) = W2 := ⟨_, rfl⟩
        rw [hW2]
        have hcg : Chg (fun x => x = g) w W2 := by rw [← hW2]; exact (((HN1.out.drewN (1 + nq)).mono (fun _ _ hf => hf.elim) : Chg (fun x => x = g) w _)).setCell (p := ⟨g, 2, none⟩) (fun _ => rfl) _
        have hcg1 : Chg (fun x => x = g) W1 W2 := by rw [← hW2]; exact ((Chg.refl (fun x => x = g) W1).drewN (1 + nq)).setCell (p := ⟨g, 2, none⟩) (fun _ => rfl) _
        have hbg : Blk W2 g 89 (pCells { s with tick := tick } dv m) := by rw [← hW2]; exact ((HH.out.blk.chg HN1.out (fun h => h)).drewN (1 + nq)).set_ 2 _
        have hr2 : Rd W2 A n (bs l) := HR.out.chg hcg (fun b hb _ e => HAA.out b hb (.inl e))
        refine (HQ.out _ hr2).mono ?_
        rintro e w3 ⟨A3, c3, rfl, hby3, hn3⟩
        have hb3 := (HB0.out.chg hcg1 hngg).chg hn3 (fun h => h)
        have ht3 := (HTK.out.chg hcg1 (fun e => hgt e.symm)).chg hn3 (fun h => h)
        have y0 := hb3.cell 0 (u := .int .i64 j.id) rfl
        have y1 := hb3.cell 1 (u := .int .i64 worker) rfl
        have y2 := hb3.cell 2 (u := .int .i64 (x : Int)) rfl
        have y3 := hb3.cell 3 (u := .slice A n c) rfl
        have yf := hb3.frozen 3
        have yl := hb3.lt
        have z2 := ht3.cell 2 (u := .int .i64 0) rfl
        have z3 := ht3.cell 3 (u := .int .i64 0) rfl
        have z4 := ht3.cell 4 (u := .int .i64 0) rfl
        have z5 := ht3.cell 5 (u := (V j.id).av) rfl
        have z6 := ht3.cell 6 (u := .bool false) rfl
        have zf2 := ht3.frozen 2
        have zf3 := ht3.frozen 3
        have zf4 := ht3.frozen 4
        have zf5 := ht3.frozen 5
        have zf6 := ht3.frozen 6
        have zl := ht3.lt
        have HSZ := Lib.hid (show W2.heap.size = W1.heap.size from by rw [← hW2]; simp [World.setCell])
        have H3 := Lib.hid (And.intro hcg (And.intro hbg (And.intro hby3 (And.intro hn3 (And.intro hb3 ht3)))))
        clear hcg hcg1 hbg hr2 hby3 hn3 hb3 ht3 hW2
        go_wp2
        go_ret2
        obtain ⟨hcg, hbg, hby3, hn3, hb3, ht3⟩ := H3.out
        have hsz : w.heap.size ≤ W2.heap.size := hcg.size
        have hszl : w.heap.size < W2.heap.size := by
          have h1 := HN1.out.size
          have h2 := hb3.lt
          have h3 : w.heap.size + 1 ≤ W1.heap.size := hbl
          exact Nat.lt_of_lt_of_le h3 (Nat.le_of_eq HSZ.out.symm)
        have hcf : Chg (fun b => b = w.heap.size ∨ b = tb) w3 ((((((w3.setCell ⟨w.heap.size, 3, none⟩ (.slice A3 n c3)).setCell ⟨tb, 2, none⟩ (.int .i64 j.id)).setCell ⟨tb, 3, none⟩ (.int .i64 worker)).setCell ⟨tb, 4, none⟩ (.int .i64 (x : Int))).setCell ⟨tb, 5, none⟩ (.slice A3 n c3)).setCell ⟨tb, 6, none⟩ (.bool true)) :=
          ((((((Chg.refl _ w3).setCell (p := ⟨w.heap.size, 3, none⟩) (fun _ => .inl rfl) _).setCell (p := ⟨tb, 2, none⟩) (fun _ => .inr rfl) _).setCell (p := ⟨tb, 3, none⟩) (fun _ => .inr rfl) _).setCell (p := ⟨tb, 4, none⟩) (fun _ => .inr rfl) _).setCell (p := ⟨tb, 5, none⟩) (fun _ => .inr rfl) _).setCell (p := ⟨tb, 6, none⟩) (fun _ => .inr rfl) _
        have hbt : Blk ((((((w3.setCell ⟨w.heap.size, 3, none⟩ (.slice A3 n c3)).setCell ⟨tb, 2, none⟩ (.int .i64 j.id)).setCell ⟨tb, 3, none⟩ (.int .i64 worker)).setCell ⟨tb, 4, none⟩ (.int .i64 (x : Int))).setCell ⟨tb, 5, none⟩ (.slice A3 n c3)).setCell ⟨tb, 6, none⟩ (.bool true)) tb 94 #[(V j.id).bv, (V j.id).tv, .int .i64 j.id, .int .i64 worker, .int .i64 (x : Int), .slice A3 n c3, .bool true] := by
          have h := (((((ht3.far (p := ⟨w.heap.size, 3, none⟩) (fun e => hng e.symm) (.slice A3 n c3)).set_ 2 (.int .i64 j.id)).set_ 3 (.int .i64 worker)).set_ 4 (.int .i64 (x : Int))).set_ 5 (.slice A3 n c3)).set_ 6 (.bool true)
          simpa using h
        obtain ⟨W4, hW4⟩ : ∃ W4, ((((((w3.setCell ⟨w.heap.size, 3, none⟩ (.slice A3 n c3)).setCell ⟨tb, 2, none⟩ (.int .i64 j.id)).setCell ⟨tb, 3, none⟩ (.int .i64 worker)).setCell ⟨tb, 4, none⟩ (.int .i64 (x : Int))).setCell ⟨tb, 5, none⟩ (.slice A3 n c3)).setCell ⟨tb, 6, none⟩ (.bool true)) = W4 := ⟨_, rfl⟩
        rw [hW4] at hcf hbt ⊢
        have hcw : Chg (fun b => b = g ∨ b = (V j.id).tb) w W4 := ((hcg.mono (fun _ _ e => .inl e) : Chg (fun b => b = g ∨ b = (V j.id).tb) w W2).new hn3).trans hcf (fun b hb e => by
          rcases e with e | e
          · omega
          · exact .inr (e.trans HTB.out.symm))
        have hgf : Blk W4 g 89 (pCells { s with tick := tick } dv m) := (hbg.chg hn3 (fun h => h)).chg hcf (fun e => by
          rcases e with e | e
          · exact hngg e.symm
          · exact hgt e)
        rw [← HTB.out] at hbt
        refine ⟨rfl, HH.out.answered (j := j) (av := .slice A3 n c3) HJ.out HWF.out hcw hgf hbt ?_⟩
        obtain ⟨A4, c4, hv4, r1, r2, r3, r4⟩ := hby3
        have hnb : ∀ b, Go.Mem.blk A4 = some b → ¬ (b = w.heap.size ∨ b = tb) := fun b hb e => by
          have h5 : W2.heap.size ≤ b := (r4 b hb).2
          have h6 := HTL.out
          omega
        exact ⟨A4, c4, hv4, r1.chg hcf (fun b hb _ => hnb b hb), r2, r3, fun b hb => ⟨Nat.lt_of_lt_of_le (r4 b hb).1 hcf.size, by have h5 : W2.heap.size ≤ b := (r4 b hb).2; show w.heap.size ≤ b; omega⟩⟩
end Go.Proofs.Ytbmplfhcdkeooaa
