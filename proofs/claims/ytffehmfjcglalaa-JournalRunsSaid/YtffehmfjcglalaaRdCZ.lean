/- The reference's disk: Append. -/
import Derived.Test.YtffehmfjcglalaaRdBZ
import Derived.Deep.RegionHeld3
set_option linter.unusedSimpArgs false
set_option linter.unusedVariables false
namespace Go.Proofs.Ytffehmfjcglalaa
set_option linter.unusedVariables false
open Go.RowKit Go.Mem Go.Dk

theorem RI.laid {w w3 : World} {g b f i : Nat} {V : Nat → Value} {s : S} {l' : List UInt8} {v : Value} (h : RI w g b f V s) (hi : i < 64) (hc : New w w3) (hr : RowV w3 5 IsU8 v (bs l')) (hv : ∀ k, blkV v = some k → w.heap.size ≤ k) (hw : WF (put s i l' (s.firm i))) :
    RI (w3.setCell ⟨b, i, none⟩ v) g b f (upd V i v) (put s i l' (s.firm i)) ∧ DidR w (w3.setCell ⟨b, i, none⟩ v) g b f V (upd V i v) := by
  have h3 := h.new hc
  have hch := (Chg.refl (fun k => k = b) w3).setCell (p := ⟨b, i, none⟩) (fun _ => rfl) v
  have hfi : ∀ j, j < 64 → (put s i l' (s.firm i)).firm j = s.firm j := fun j _ => by
    show upd s.firm i (s.firm i) j = _
    rw [upd_self]
  have hbl := h.lt (.inr (.inl rfl))
  exact h.put_row (i := i) (d := s.firm i) (l := l') (v := v) ((hc.mono (fun _ _ hf => hf.elim)).trans hch (fun k _ e => .inl e)) ((h3.core.setB i v).firm rfl hfi) (hr.chg hch (fun k hk e => by have := hv k hk; have e : k = b := e; omega)) (fun k hk => .inr (hv k hk)) hw

/-- An append at a step of a region that draws its order. -/
theorem step_appV {P : Program} {ops : Array Oper} {o : Oper} {a : Act} {K : Act → World → Prop} {Q : Exit → Act → World → Prop} {E : Prop} {w w' : World} (hgd : o.guard = none) (s x : Operand) (t : TypeId) (ho : o.op = .call { callee := .builtin .append, args := #[s, x], argTypes := #[t, t] }) {v y v' : Value} (hsv : a.eval s = v) (hyv : a.eval x = y)
    (hrun : (Builtin.append_ #[t, t] o.type #[v, y]).run P w = .ok v' w') (h : K (a.put o.dst v') w') : if Region.wanted o (yielded ops a.tmps) = true then Oper.wp P o a w K Q else E := by
  have hw : Region.wanted o (yielded ops a.tmps) = true := by simp [Region.wanted, hgd]
  rw [if_pos hw]
  unfold Oper.wp execOp
  simp only [ho, resolve, invoke, builtin, Sem.run_bind, Sem.run_pure, Result.andThen_ok, List.map_toArray, List.map_cons, List.map_nil, hsv, hyv]
  rw [hrun]
  exact h

set_option maxHeartbeats 2000000 in
set_option maxRecDepth 100000 in
theorem rAppend_any (g b f : Nat) (V : Nat → Value) (s : S) (w : World) (h : RI w g b f V s) (file : Int) (B : Option Addr) (nb cb : Nat) (l : List UInt8) (hb : Rd w B nb (bs l)) (hnb : nb ≤ 1000000000) :
    Calls Try.prog 48 #[.pointer (some ⟨g, 0, none⟩), .int .i64 file, .slice B nb cb] w fun e w' => e = .returned (.int .i64 (append s file l).2) ∧
      ∃ V', RI w' g b f V' (append s file l).1 ∧ DidR w w' g b f V V' := by
  obtain ⟨hc0, hc1, hc2, hc3, hc4⟩ := h.core.cc
  have hgl := h.core.blk.lt
  have hlb : l.length = nb := by have := hb.len; simpa using this
  have hus := h.wf.used
  have hro := h.wf.room
  have HH := Lib.hid h
  have HLB := Lib.hid hlb
  clear h hlb hc2 hc4
  by_cases h1 : file < 0
  · rw [app_bad (.inl h1)]
    go_enter Try.func48, Try.ntmps48
    go_wp2
    go_ret
    exact ⟨rfl, V, HH.out, DidR.of_new (Chg.refl _ _)⟩
  by_cases h2 : 63 < file
  · rw [app_bad (.inr (by omega))]
    go_enter Try.func48, Try.ntmps48
    go_wp2
    go_ret
    exact ⟨rfl, V, HH.out, DidR.of_new (Chg.refl _ _)⟩
  have hno : ¬ (file < 0 ∨ 64 ≤ file) := by omega
  cases ho : s.off with
  | true =>
    rw [app_off hno ho]
    rw [ho] at hc3
    go_enter Try.func48, Try.ntmps48
    go_wp2
    go_ret
    exact ⟨rfl, V, HH.out, DidR.of_new (Chg.refl _ _)⟩
  | false =>
    rw [ho] at hc3
    obtain ⟨i, rfl⟩ := Int.eq_ofNat_of_zero_le (by omega : 0 ≤ file)
    have hi : i < 64 := by omega
    obtain ⟨u, hu⟩ : ∃ u, used s = u := ⟨_, rfl⟩
    rw [hu] at hus
    have HU := Lib.hid hu
    by_cases hf : s.room < used s + l.length
    · rw [app_full hno ho hf]
      have hf2 : (s.room : Int) < (u : Int) + (nb : Int) := by rw [hu, HLB.out] at hf; omega
      have hw : IntKind.i64.wrap ((u : Int) + (nb : Int)) = (u : Int) + (nb : Int) := IntWalk.i64_in _ (by omega)
      clear hf hu
      have HO := Lib.hid ho
      clear ho
      go_enter Try.func48, Try.ntmps48
      go_wp2_with fail
      go_region_with (go_at_call 56; (with_reducible refine (rUsed_any g b f V s _ (HH.out.new (Chg.refl _ _).drew)).mono ?_); rintro e w1 ⟨rfl, hn1⟩; rw [HU.out]; have HN1 := Lib.hid hn1; have hd0 := hn1.cell hc0 (fun h => h); clear hn1)
      all_goals go_wp2
      all_goals go_ret
      all_goals exact ⟨rfl, V, HH.out.new ((Chg.refl _ _).drew.new HN1.out), DidR.of_new ((Chg.refl _ _).drew.new HN1.out)⟩
    · rw [app_ok hi ho hf]
      have hf2 : (u : Int) + (nb : Int) ≤ (s.room : Int) := by rw [hu, HLB.out] at hf; omega
      have hw : IntKind.i64.wrap ((u : Int) + (nb : Int)) = (u : Int) + (nb : Int) := IntWalk.i64_in _ (by omega)
      clear hf hu
      have HO := Lib.hid ho
      clear ho
      obtain ⟨A, c, hv, hlc, hcm⟩ := HH.out.slice i
      obtain ⟨n, hn⟩ : ∃ n, (s.f i).length = n := ⟨_, rfl⟩
      obtain ⟨d, hd⟩ : ∃ d, s.firm i = d := ⟨_, rfl⟩
      obtain ⟨r, hr⟩ : ∃ r, (pstep (put s i (s.f i ++ l) (s.firm i))).2 = r := ⟨_, rfl⟩
      rw [hr]
      have HR2 := Lib.hid hr
      clear hr
      have hlen := HH.out.wf.len i
      have hnu : n ≤ u := by rw [← hn, ← HU.out]; exact usedN_le 64 hi
      rw [hn] at hv hlc hlen
      have hrd : Rd w A n (bs (s.f i)) := by have := HH.out.rows i; rw [hv] at this; exact this.rd
      have hcb := HH.out.core.cb hi
      rw [hv] at hcb
      have HD := Lib.hid hd
      have HR := Lib.hid hrd
      have HN := Lib.hid hn
      have HB := Lib.hid hb
      clear hv hd hrd hlc hcm hn hb
      go_enter Try.func48, Try.ntmps48
      go_wp2_with fail
      go_region_with (go_at_call 56; (with_reducible refine (rUsed_any g b f V s _ (HH.out.new (Chg.refl _ _).drew)).mono ?_); rintro e w1 ⟨rfl, hn1⟩; rw [HU.out]; have HN1 := Lib.hid hn1; have hd0 := hn1.cell hc0 (fun h => h); have hd1 := hn1.cell hc1 (fun h => h); have hdb := hn1.cell hcb (fun h => h); have hgl1 := Nat.lt_of_lt_of_le hgl hn1.size; clear hn1)
      all_goals
        have HN2 := Lib.hid ((Chg.refl (fun _ => False) w).drew.new HN1.out)
        clear hc0 hc1 hc3 hgl hcb
        have hroom : n + nb ≤ 100000000 := by omega
        go_wp2_with (first
          | (at_builtin; refine wpList_appV elemB rfl ⟨0, rfl⟩ rfl _ _ rfl rfl (RowV.nil _ _ _) rfl (src_rd Try.underlying33 (HR.out.new HN2.out) (bs_one _)) (bs_u8 _) (by simp; omega) (by simp; omega) ?_; intro A' c' N' w2 hN' hown2 hg2' hat2')
          | fail)
        have hat2 : ∀ k, blk A' = some k → w1.heap.size ≤ k := fun k hk => by
          rcases hat2' with e | ⟨e, _⟩
          · rw [e] at hk; cases hk
          · rw [e] at hk; injection hk with hk; omega
        have hg2 : World.grownBy w1 w2 none := hg2'
        clear hg2' hat2'
        have hn12 : New w1 w2 := (Chg.refl _ w1).grown hg2 (fun k hk _ => by cases hk)
        have hN'' : N' = (s.f i).length := by rw [hN', List.nil_append, bs_length]
        subst hN''
        have HX2 := Lib.hid (And.intro hown2 (And.intro hat2 (And.intro hn12 (hn12.drew))))
        obtain ⟨v3, w3, hrun3, hown3, hg3, hat3, _⟩ := RowV.app (P := Try.prog) (w := w2.drew) (v := .slice A' (s.f i).length c') (xs := [] ++ bs (s.f i)) (x := .slice B nb cb) (m := nb) (news := bs l) elemB rfl ⟨0, rfl⟩ 33 33 (hown2.new (Chg.refl _ _).drew) (src_rd Try.underlying33 (HB.out.new ((HN2.out.new hn12).drew)) (bs_one _)) (bs_u8 _) (by rw [List.nil_append, bs_length, HN.out]; omega) (by rw [List.nil_append, bs_length, HN.out]; omega)
        have hn23 : Chg (fun k => w1.heap.size ≤ k) w2 w3 := ((Chg.refl _ w2).drew).grown hg3 (fun k hk _ => hat2 k hk)
        have hk0 := hn12.cell hd1 (fun h => h)
        have hk1 := hn23.cell hk0 (fun h => by have h : w1.heap.size ≤ g := h; omega)
        obtain ⟨A3, c3, rfl, _⟩ := hown3.shape
        have hlen3 : ([] ++ bs (s.f i) ++ bs l).length = (s.f i).length + nb := by rw [List.nil_append, List.length_append, bs_length, bs_length, HLB.out]
        rw [hlen3] at hrun3 hown3 hat3
        have hnw3 : New w w3 := by
          have h0 := HN2.out
          have h1 : Chg (fun _ => False) w w2 := h0.trans hn12 (fun _ _ h => h)
          refine h1.trans hn23 (fun k hk e => ?_)
          have := h0.size
          have e : w1.heap.size ≤ k := e
          omega
        have hv3 : ∀ k, blkV (.slice A3 ((s.f i).length + nb) c3) = some k → w.heap.size ≤ k := fun k hk => by
          have h0 := HN2.out.size
          have h2 := hn12.size
          rcases hat3 with e | ⟨e, _⟩
          · rw [e] at hk; have := hat2 k hk; omega
          · rw [e] at hk; injection hk with hk; have : w2.drew.heap.size = w2.heap.size := rfl; omega
        obtain ⟨hri, hdid⟩ := HH.out.laid (l' := s.f i ++ l) hi hnw3 (by rw [bs_append]; simpa using hown3) hv3 (HH.out.wf.put hi (by rw [List.length_append]; have := HH.out.wf.firm i; omega) (by rw [List.length_append, HU.out, HN.out, HLB.out]; omega))
        have HRI := Lib.hid (And.intro hri hdid)
        have hR3 := (HH.out.new hnw3).core
        have hcb3 := hR3.cb hi
        have hfz3 := hR3.rb.frozen i
        have hbl3 := hR3.rb.lt
        obtain ⟨A0, c0, hv0, _⟩ := HH.out.slice i
        rw [hv0] at hcb3
        clear hown2 hat2 hn12 HX2 hown3 hg3 hat3 hlen3 hnw3 hv3 hri hdid hg2 hN' hR3 hv0
        clear hn23 hd0 hd1 hdb hgl1
        have hk4 := HRI.out.1.core.cc.2.1
        have hi1 : (0 : Int) ≤ (i : Int) := by omega
        have hi2 : (i : Int) < 64 := by omega
        have hi3 : (i : Int) < ((64 : Nat) : Int) := by omega
        go_region_held3 (fun w1 => w1.cell? ⟨g, 1, none⟩ = some (.slice (some ⟨b, 0, none⟩) 64 64)) (first | exact hk0 | exact hk1 | exact hk4) (refine step_appV rfl _ _ _ rfl rfl rfl hrun3 ?_)
        clear hrun3 hk0 hk1 hcb3 hfz3 hbl3
        have HRI2 := Lib.hid HRI.out
        have hbk := HRI.out.1.core.blk
        go_wp2_with fail
        refine (rStep_any g b f (put s i (s.f i ++ l) (s.firm i)) _ hbk HO.out HH.out.wf.plan).mono ?_
        rintro e w5 ⟨rfl, hb5, hc5⟩
        obtain ⟨hri5, hdid5⟩ := HRI2.out.1.cells ⟨(step_f _).1, (step_f _).2.1⟩ hb5 hc5 HRI2.out.1.wf.pstep
        have HD5 := Lib.hid (And.intro hri5 (HRI2.out.2.trans hdid5))
        clear hbk hb5 hc5 hri5 hdid5
        rw [HR2.out]
        cases r
        · go_wp2
          go_ret
          exact ⟨rfl, _, HD5.out.1, HD5.out.2⟩
        · go_wp2
          go_ret
          exact ⟨rfl, _, HD5.out.1, HD5.out.2⟩
end Go.Proofs.Ytffehmfjcglalaa
