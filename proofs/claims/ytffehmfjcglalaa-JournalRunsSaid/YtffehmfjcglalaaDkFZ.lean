/- Contract of disk.Append. -/
import Derived.Test.YtffehmfjcglalaaDkEZ
set_option linter.unusedSimpArgs false
set_option linter.unusedVariables false
namespace Go.Proofs.Ytffehmfjcglalaa
set_option linter.unusedVariables false
open Go.RowKit Go.Mem Go.Dk

theorem app_bad {s : S} {file : Int} {l : List UInt8} (h : file < 0 ∨ 64 ≤ file) : append s file l = (s, 1) := if_pos h
theorem app_off {s : S} {file : Int} {l : List UInt8} (h : ¬ (file < 0 ∨ 64 ≤ file)) (ho : s.off = true) : append s file l = (s, 24) := by unfold Dk.append; rw [if_neg h, if_pos ho]
theorem app_full {s : S} {file : Int} {l : List UInt8} (h : ¬ (file < 0 ∨ 64 ≤ file)) (ho : s.off = false) (hf : s.room < used s + l.length) : append s file l = (s, 23) := by unfold Dk.append; rw [if_neg h, if_neg (by rw [ho]; simp), if_pos hf]
theorem app_ok {s : S} {i : Nat} {l : List UInt8} (h : i < 64) (ho : s.off = false) (hf : ¬ s.room < used s + l.length) : append s (i : Int) l = ((pstep (put s i (s.f i ++ l) (s.firm i))).1, if (pstep (put s i (s.f i ++ l) (s.firm i))).2 then 24 else 0) := by unfold Dk.append; rw [if_neg (by omega), if_neg (by rw [ho]; simp), if_neg hf]; simp
theorem Chg.setCell_new {S : Nat → Prop} {w w' : World} {g i : Nat} (h : Chg S w w') (hg : w.heap.size ≤ g) (v : Value) : Chg S w (w'.setCell ⟨g, i, none⟩ v) := by
  have := h.trans ((Chg.refl (fun k => k = g) w').setCell (p := ⟨g, i, none⟩) (fun _ => rfl) v) (S := S) (T := fun k => k = g)
  exact this (fun k hk e => by omega)
theorem DI.appended {w w2 w4 : World} {g m i d n' c' : Nat} {V : Nat → Value} {s : S} {l' : List UInt8} {A' : Option Addr} {u : Value} (h : DI w g m V s) (hi : i < 64) (hd : s.firm i = d) (hN : l'.length = n') {xs : List Value} (hrow : RowV w2 5 IsU8 (.slice A' n' c') xs) (hx : xs = bs l') (hat : blk A' = blkV (V i) ∨ ∃ k, blk A' = some k ∧ w.heap.size ≤ k)
    {w3 : World} (hc3 : Chg (fun k => blkV (V i) = some k) w w3) (hc4 : Chg (fun k => k = m) w3 w4) (hd4 : DC w4 g m (upd V i (if n' = 0 then .slice none 0 0 else .slice A' n' c')) (put s i l' d)) {k0 : Nat} (h3 : w3 = w2.setCell ⟨k0, 0, none⟩ u) (hn : blk A' ≠ some k0) (hw : WF (put s i l' d)) :
    DI w4 g m (upd V i (if n' = 0 then .slice none 0 0 else .slice A' n' c')) (put s i l' d) ∧ Did w w4 g m V (upd V i (if n' = 0 then .slice none 0 0 else .slice A' n' c')) := by
  subst h3
  subst hx
  have hr4 : RowV w4 5 IsU8 (.slice A' n' c') (bs l') := by
    have h1 := hrow.chg ((Chg.refl (fun k => k = k0) w2).setCell (p := ⟨k0, 0, none⟩) (fun _ => rfl) u) (fun k hk e => hn (by subst e; exact hk))
    refine h1.chg hc4 (fun k hk e => ?_)
    obtain ⟨cs, h5, _⟩ := h1.kind hk
    have e : k = m := e
    rw [e] at h5
    obtain ⟨_, es, clock, hb, _⟩ := h.core.map
    have h7 : (w2.setCell ⟨k0, 0, none⟩ u).heap[m]? = w.heap[m]? := hc3.block m h.core.map.lt (fun e => (h.core.row_ne (h.rows i) e).2 rfl)
    unfold Blk at h5
    rw [h5, hb] at h7
    cases h7
  refine h.put_row ((hc3.mono (fun k _ e => .inr (.inr e))).trans hc4 (fun k _ e => .inr (.inl e))) hd4 ?_ (fun k hk => ?_) hw
  · split
    · rename_i h0
      have : l' = [] := List.eq_nil_of_length_eq_zero (by omega)
      subst this
      exact RowV.nil _ _ _
    · exact hr4
  · split at hk
    · cases hk
    · rcases hat with e | ⟨k', e, hle⟩
      · exact .inl (by rw [← e]; exact hk)
      · have : k = k' := by have h9 : blk A' = some k := hk; rw [e] at h9; injection h9 with h9; exact h9.symm
        exact .inr (by omega)
theorem elemB : Elem Try.prog 33 5 (.int .u8 0) 1 := elemBytes

set_option maxHeartbeats 1000000 in
set_option maxRecDepth 100000 in
theorem dAppend_any (g m : Nat) (V : Nat → Value) (s : S) (w : World) (h : DI w g m V s) (file : Int) (B : Option Addr) (nb cb : Nat) (l : List UInt8) (hb : Rd w B nb (bs l)) (hnb : nb ≤ 1000000000) :
    Calls Try.prog 19 #[.pointer (some ⟨g, 0, none⟩), .int .i64 file, .slice B nb cb] w fun e w' => e = .returned (.int .i64 (append s file l).2) ∧
      ∃ V', DI w' g m V' (append s file l).1 ∧ Did w w' g m V V' := by
  have hc0 := h.core.blk.cell 0 (u := .int .i64 (s.room : Int)) rfl
  have hc1 := h.core.blk.cell 1 (u := .map (some m)) rfl
  have hc2 := h.core.blk.cell 2 (u := .bool s.off) rfl
  have hgl := h.core.blk.lt
  have hlb : l.length = nb := by have := hb.len; simpa using this
  have hus := h.wf.used
  have hro := h.wf.room
  have HH := Lib.hid h
  have HLB := Lib.hid hlb
  clear h hlb
  by_cases h1 : file < 0
  · rw [app_bad (.inl h1)]
    go_enter Try.func19, Try.ntmps19
    go_wp2
    go_ret
    exact ⟨rfl, V, HH.out, Did.of_new (Chg.refl _ _)⟩
  by_cases h2 : 64 ≤ file
  · rw [app_bad (.inr h2)]
    go_enter Try.func19, Try.ntmps19
    go_wp2
    go_ret
    exact ⟨rfl, V, HH.out, Did.of_new (Chg.refl _ _)⟩
  have hno : ¬ (file < 0 ∨ 64 ≤ file) := by omega
  cases ho : s.off with
  | true =>
    rw [app_off hno ho]
    rw [ho] at hc2
    go_enter Try.func19, Try.ntmps19
    go_wp2
    go_ret
    exact ⟨rfl, V, HH.out, Did.of_new (Chg.refl _ _)⟩
  | false =>
    rw [ho] at hc2
    obtain ⟨i, rfl⟩ := Int.eq_ofNat_of_zero_le (by omega : 0 ≤ file)
    have hi : i < 64 := by omega
    obtain ⟨u, hu⟩ : ∃ u, used s = u := ⟨_, rfl⟩
    rw [hu] at hus
    have HU := Lib.hid hu
    by_cases hf : s.room < used s + l.length
    · rw [app_full hno ho hf]
      have hf2 : (s.room : Int) < (u : Int) + (nb : Int) := by rw [hu, HLB.out] at hf; omega
      have hw : IntKind.i64.wrap ((u : Int) + (nb : Int)) = (u : Int) + (nb : Int) := IntWalk.i64_in _ (by omega)
      clear hf hu
      have HO := Lib.hid ho
      clear ho
      go_enter Try.func19, Try.ntmps19
      go_wp2_with fail
      go_region_with (go_at_call 12; (with_reducible refine (dUsed_any g m V s _ (HH.out.new (Chg.refl _ _).drew)).mono ?_); rintro e w1 ⟨rfl, hn1⟩; rw [HU.out]; have HN1 := Lib.hid hn1; have hd0 := hn1.cell hc0 (fun h => h); clear hn1)
      all_goals go_wp2
      all_goals go_ret
      all_goals exact ⟨rfl, V, HH.out.new ((Chg.refl _ _).drew.new HN1.out), Did.of_new ((Chg.refl _ _).drew.new HN1.out)⟩
    · rw [app_ok hi ho hf]
      have hf2 : (u : Int) + (nb : Int) ≤ (s.room : Int) := by rw [hu, HLB.out] at hf; omega
      have hw : IntKind.i64.wrap ((u : Int) + (nb : Int)) = (u : Int) + (nb : Int) := IntWalk.i64_in _ (by omega)
      clear hf hu
      have HO := Lib.hid ho
      clear ho
      obtain ⟨A, c, hv, hlc, hcm⟩ := HH.out.slice i
      obtain ⟨n, hn⟩ : ∃ n, (s.f i).length = n := ⟨_, rfl⟩
      obtain ⟨d, hd⟩ : ∃ d, s.firm i = d := ⟨_, rfl⟩
      rw [hd]
      obtain ⟨r, hr⟩ : ∃ r, (pstep (put s i (s.f i ++ l) d)).2 = r := ⟨_, rfl⟩
      rw [hr]
      have HR2 := Lib.hid hr
      clear hr
      have hlen := HH.out.wf.len i
      have hnu : n ≤ u := by rw [← hn, ← HU.out]; exact usedN_le 64 hi
      rw [hn] at hv hlc hlen
      have hrow := HH.out.rows i
      rw [hv] at hrow
      have HV := Lib.hid hv
      have HD := Lib.hid hd
      have HR := Lib.hid hrow
      have HN := Lib.hid hn
      have HB := Lib.hid hb
      clear hv hd hrow hlc hcm hn hb
      go_enter Try.func19, Try.ntmps19
      go_wp2_with fail
      go_region_with (go_at_call 12; (with_reducible refine (dUsed_any g m V s _ (HH.out.new (Chg.refl _ _).drew)).mono ?_); rintro e w1 ⟨rfl, hn1⟩; rw [HU.out]; have HN1 := Lib.hid hn1; have hd0 := hn1.cell hc0 (fun h => h); have hd1 := hn1.cell hc1 (fun h => h); have hgl1 := Nat.lt_of_lt_of_le hgl hn1.size; clear hn1)
      all_goals
        have HN2 := Lib.hid ((Chg.refl (fun _ => False) w).drew.new HN1.out)
        clear hc0 hc1 hc2 hgl
        have hroom : (bs (s.f i)).length + nb ≤ 100000000 := by rw [bs_length, HN.out]; omega
        go_wp2_with (first
          | (at_lookup; refine wpList_file _ rfl _ _ rfl HH.out.core rfl (HH.out.core.map.chg HN2.out (fun h => h)) hi rfl HV.out HD.out ?_)
          | (at_builtin; refine wpList_appV elemB rfl ⟨0, rfl⟩ rfl _ _ rfl rfl (HR.out.new (HN2.out.alloc _)) rfl (src_rd Try.underlying33 (HB.out.new (HN2.out.alloc _)) (bs_one _)) (bs_u8 _) (by omega) (by omega) ?_; intro A' c' N' w2 hN' hown2 hg2' hat2'; have hg2 : World.grownBy (w1.alloc (.cells #[.slice A n c, .int .i64 (d : Int)] 70)) w2 (blk A) := hg2'; have hat2 : blk A' = blk A ∨ ∃ k, blk A' = some k ∧ w.heap.size ≤ k := hat2'.imp (fun e => e) (fun e => ⟨_, e.1, by have := HN2.out.size; simp; omega⟩); clear hg2' hat2'; have hbx := (Blk.new w1 70 #[.slice A n c, .int .i64 (d : Int)]).grown hg2 (fun e => by have := HR.out.lt e; have := HN2.out.size; omega); have hx0 := hbx.cell 0 rfl; have hx1 := hbx.cell 1 rfl; have hxf := hbx.frozen 0; have HBX := Lib.hid hbx; have HO2 := Lib.hid hown2; have HG2 := Lib.hid (And.intro hg2 hat2); have HN' := Lib.hid hN'; clear hbx hown2 hg2 hat2 hN')
          | fail)
        have hl' : (s.f i ++ l).length = N' := by have := HN'.out; rw [List.length_append, bs_length, bs_length] at this; rw [List.length_append]; exact this.symm
        have hch3 : Chg (fun k => blkV (V i) = some k) w (w2.setCell ⟨w1.heap.size, 0, none⟩ (.slice A' N' c')) := by
          rw [HV.out]
          refine Chg.setCell_new ?_ (show w.heap.size ≤ w1.heap.size from HN2.out.size) _
          exact ((HN2.out.alloc _).mono (fun _ _ hf => hf.elim)).trans (grown_chg HG2.out.1) (fun k _ e => e.symm)
        have hdc : DC (w2.setCell ⟨w1.heap.size, 0, none⟩ (.slice A' N' c')) g m V s := HH.out.core.chg hch3 (fun e => (HH.out.core.row_ne (HH.out.rows i) e).1 rfl) (fun e => (HH.out.core.row_ne (HH.out.rows i) e).2 rfl)
        have hne : blk A' ≠ some w1.heap.size := by
          rcases HG2.out.2 with e | ⟨k', e, _⟩
          · rw [e]; exact fun e2 => by have := HR.out.lt e2; have := HN2.out.size; omega
          · exact HO2.out.ne HBX.out (by decide)
        have HNE := Lib.hid hne
        clear hne
        have HDC := Lib.hid (And.intro hdc (And.intro hl' hch3))
        clear hdc hl' hch3
        refine (dPut_any g m V s _ HDC.out.1 i hi A' N' c' (s.f i ++ l) HDC.out.2.1 d ?_).mono ?_
        · intro e0
          have := HDC.out.2.1
          rw [List.length_append] at this
          have := HH.out.wf.firm i
          rw [HD.out] at this
          omega
        rintro e w4 ⟨rfl, hd4, hc4⟩
        obtain ⟨hdi, hdid⟩ := HH.out.appended hi HD.out HDC.out.2.1 HO2.out (bs_append _ _).symm (by rw [HV.out]; exact HG2.out.2) HDC.out.2.2 hc4 hd4 rfl HNE.out (HH.out.wf.put hi (by rw [List.length_append]; have := HH.out.wf.firm i; rw [HD.out] at this; omega) (by rw [List.length_append, HU.out, HN.out, HLB.out]; omega))
        have HDI := Lib.hid (And.intro hdi hdid)
        have hbk := hdi.core.blk
        clear hdi hdid hd4 hc4 HO2 HG2 HDC HBX
        go_wp2_with fail
        refine (dFails_any g m (put s i (s.f i ++ l) d) _ hbk HH.out.wf.plan).mono ?_
        rintro e w5 ⟨rfl, hb5, hc5⟩
        obtain ⟨hdi5, hdid5⟩ := HDI.out.1.cells ⟨(step_f _).1, (step_f _).2.1⟩ hb5 hc5 HDI.out.1.wf.pstep
        have HD5 := Lib.hid (And.intro hdi5 (HDI.out.2.trans hdid5))
        clear hbk hb5 hc5 hdi5 hdid5
        rw [HR2.out]
        cases r
        · go_wp2
          go_ret
          exact ⟨rfl, _, HD5.out.1, HD5.out.2⟩
        · go_wp2
          go_ret
          exact ⟨rfl, _, HD5.out.1, HD5.out.2⟩
end Go.Proofs.Ytffehmfjcglalaa
