/- Contract of (*journal.Log).Append. -/
import Derived.Test.YtffehmfjcglalaaJnBZ
set_option linter.unusedSimpArgs false
set_option linter.unusedVariables false
namespace Go.Proofs.Ytffehmfjcglalaa
set_option linter.unusedVariables false
open Go.RowKit Go.Mem Go.Dk Go.Pure Go.Jn

/-- What Append leaves. -/
def AppV (w w' : World) (g m gl : Nat) (V : Nat → Value) (r : S × Lg × Int) (e : Ending) : Prop :=
  e = .returned (.int .i64 r.2.2) ∧ ∃ V', DI w' g m V' r.1 ∧ Blk w' gl 65 (lgCells g r.2.1) ∧ Chg (fun k => ownD g m V k ∨ k = gl) w w' ∧ ∀ k, ownD g m V' k → ownD g m V k ∨ w.heap.size ≤ k
theorem AppV.same {w w' : World} {g m gl : Nat} {V : Nat → Value} {s : S} {l : Lg} {cd : Int} {e : Ending} (h : DI w g m V s) (hl : Blk w gl 65 (lgCells g l)) (he : e = .returned (.int .i64 cd)) (hn : New w w') : AppV w w' g m gl V (s, l, cd) e :=
  ⟨he, V, h.new hn, hl.chg hn (fun h => h), hn.mono (fun _ _ hf => hf.elim), fun k hk => .inl hk⟩

theorem results_cell1 {fn : Func} {p : Tmp} {ty : TypeId} {g : Nat} {v : Value} {P : Program} {w : World} (h : fn.results = #[.cell p ty]) (tmps : Array Value) (hp : tmps.getD p undef = .pointer (some ⟨g, 0, none⟩)) (hl : (loadVar ty ⟨g, 0, none⟩).run P w = .ok v w) : (results fn tmps).run P w = .ok v w := by
  have hp' : tmps[p]?.getD undef = .pointer (some ⟨g, 0, none⟩) := by simpa using hp
  simp [results, h, hp', asAddr, hl]
theorem load_errno {w : World} {g : Nat} {v : Value} (h : Blk w g 28 #[v]) : (loadVar 28 ⟨g, 0, none⟩).run Try.prog w = .ok v w := by
  have hc := h.cell 0 (u := v) rfl
  have hu := Try.underlying28
  simp [loadVar, isAgg, run_underlying hu, hc]
/-- Behind the deferred closure. -/
theorem app_door {w' : World} {g gl Bl Be : Nat} {l : Lg} {cd : Int} {tmps : Array Value} {R : Ending → World → Prop} (hl : Blk w' gl 65 (lgCells g l)) (hbl : Blk w' Bl 26 #[.pointer (some ⟨gl, 0, none⟩)]) (hbe : Blk w' Be 28 #[.int .i64 cd]) (hne : Be ≠ gl)
    (ht : tmps.getD 4 undef = .pointer (some ⟨Be, 0, none⟩))
    (h : ∀ w2, Chg (fun k => k = gl) w' w2 → Blk w2 gl 65 (lgCells g { l with down := if cd = 24 then true else l.down }) → R (.returned (.int .i64 cd)) w2) :
    Leaves Try.prog Try.f14 tmps R [{ target := Target.fn (Fn.func 39) #[.pointer (some ⟨Be, 0, none⟩), .pointer (some ⟨Bl, 0, none⟩)], args := #[] }] .returning w' := by
  refine leaves_cons (f := 39) (args := #[.pointer (some ⟨Be, 0, none⟩), .pointer (some ⟨Bl, 0, none⟩)]) (by simp) (by simp [go_sem]) ?_
  by_cases hc : cd = 24
  · subst hc
    refine (jShut_24 Be Bl gl g l .returning w' (hbe.cell 0 rfl) (hbl.cell 0 rfl) hl).mono ?_
    rintro e u' w2 ⟨rfl, rfl, rfl⟩
    have hch : Chg (fun k => k = gl) w' (w'.setCell ⟨gl, 3, none⟩ (.bool true)) := (Chg.refl (fun k => k = gl) w').setCell (p := ⟨gl, 3, none⟩) (fun _ => rfl) (.bool true)
    refine ⟨_, results_cell1 rfl _ ht (load_errno (hbe.chg hch hne)), h _ hch ?_⟩
    have := hl.set_ 3 (.bool true)
    simpa [lgCells] using this
  · refine (jShut_no Be Bl cd hc .returning w' (hbe.cell 0 rfl)).mono ?_
    rintro e u' w2 ⟨rfl, rfl, rfl⟩
    refine ⟨_, results_cell1 rfl _ ht (load_errno hbe), h _ (Chg.refl _ _) ?_⟩
    rw [if_neg hc]
    exact hl

theorem app_fin {w w0 w5 w6 w2 : World} {g m gl : Nat} {V V6 : Nat → Value} {s s1 : S} {l' : Lg} {cd : Int} (hd : DI w g m V s) (hlt : gl < w.heap.size) (hno : ¬ ownD g m V gl) (hn0 : New w w0) (hz : w.heap.size + 1 < w0.heap.size) (hn5 : New w0 w5) (hdid : Did w5 w6 g m V V6) (hd6 : DI w6 g m V6 s1) (hc : Chg (fun k => k = w.heap.size + 1 ∨ k = gl) w6 w2) (hl : Blk w2 gl 65 (lgCells g l')) : AppV w w2 g m gl V (s1, l', cd) (.returned (.int .i64 cd)) := by
  have h5 := hn5.size
  have own6 : ∀ k, ownD g m V6 k → ownD g m V k ∨ w0.heap.size ≤ k := fun k hk => by
    rcases hdid.own k hk with h | h
    · exact .inl h
    · exact .inr (by omega)
  refine ⟨rfl, V6, hd6.chg hc (fun k hk h => ?_), hl, ?_, fun k hk => ?_⟩
  · rcases own6 k hk with h1 | h1
    · rcases h with h | h
      · have := hd.lt h1; omega
      · exact hno (h ▸ h1)
    · rcases h with h | h <;> omega
  · have c1 : Chg (fun k => ownD g m V k ∨ k = gl) w w6 := ((hn0.new hn5).mono (fun _ _ hf => hf.elim)).trans hdid.chg (fun k _ ho => .inl ho)
    exact c1.trans hc (fun k hk h => by
      rcases h with h | h
      · omega
      · exact .inr h)
  · rcases own6 k hk with h1 | h1
    · exact .inl h1
    · have := hn0.size; exact .inr (by omega)

set_option maxHeartbeats 2000000 in
set_option maxRecDepth 100000 in
theorem jAppend_any (g m : Nat) (V : Nat → Value) (s : S) (gl : Nat) (l : Lg) (w : World) (h : DI w g m V s) (hl : Blk w gl 65 (lgCells g l)) (hno : ¬ ownD g m V gl) (B : Option Addr) (nb cb : Nat) (b : List UInt8) (hb : Rd w B nb (bs b)) (hB : ∀ k, blk B = some k → k < w.heap.size) (hbl : b.length ≤ 100000000) (hs : l.size ≤ 1000000000) :
    Calls Try.prog 14 #[.pointer (some ⟨gl, 0, none⟩), .slice B nb cb] w fun e w' => AppV w w' g m gl V (appJ s l b) e := by
  have hnb : b.length = nb := by have := hb.len; simpa using this
  have HNB := Lib.hid hnb
  have HH := Lib.hid h
  have HL := Lib.hid hl
  have hg0 := hl.cell 0 (u := .pointer (some ⟨g, 0, none⟩)) rfl
  have hg1 := hl.cell 1 (u := .int .i64 l.file) rfl
  have hg2 := hl.cell 2 (u := .int .i64 (l.size : Int)) rfl
  have hg3 := hl.cell 3 (u := .bool l.down) rfl
  have hglt := hl.lt
  by_cases h1 : 65536 < nb
  · have h1' : (65536 : Int) < (nb : Int) := by omega
    have e : appJ s l b = (s, l, 4) := by unfold appJ; rw [if_pos (by omega)]
    rw [e]
    clear h hl hb hnb e
    go_enter_defers Try.func14, Try.ntmps14
    go_wp2
    obtain ⟨w1, hw1⟩ : ∃ w1, (w.alloc (Obj.cells #[Value.pointer (some ⟨gl, 0, none⟩)] 26)).alloc (Obj.cells #[Value.int IntKind.i64 4] 28) = w1 := ⟨_, rfl⟩
    have hn1 : New w w1 := by rw [← hw1]; exact ((Chg.refl _ w).alloc _).alloc _
    rw [hw1]
    exact ⟨_, results_cell1 (g := w.heap.size + 1) rfl _ rfl (load_errno (by rw [← hw1, ← World.size_alloc w (Obj.cells #[Value.pointer (some ⟨gl, 0, none⟩)] 26)]; exact Blk.new _ _ _)), AppV.same HH.out HL.out rfl hn1⟩
  have h1' : (nb : Int) ≤ 65536 := by omega
  cases hdn : l.down with
  | true =>
    have e : appJ s l b = (s, l, 24) := by unfold appJ; rw [if_neg (by omega), if_pos hdn]
    rw [e]
    rw [hdn] at hg3
    clear h hl hb hnb e hdn
    go_enter_defers Try.func14, Try.ntmps14
    go_wp2
    obtain ⟨w1, hw1⟩ : ∃ w1, (w.alloc (Obj.cells #[Value.pointer (some ⟨gl, 0, none⟩)] 26)).alloc (Obj.cells #[Value.int IntKind.i64 24] 28) = w1 := ⟨_, rfl⟩
    have hn1 : New w w1 := by rw [← hw1]; exact ((Chg.refl _ w).alloc _).alloc _
    rw [hw1]
    exact ⟨_, results_cell1 (g := w.heap.size + 1) rfl _ rfl (load_errno (by rw [← hw1, ← World.size_alloc w (Obj.cells #[Value.pointer (some ⟨gl, 0, none⟩)] 26)]; exact Blk.new _ _ _)), AppV.same HH.out HL.out rfl hn1⟩
  | false =>
    rw [hdn] at hg3
    obtain ⟨x, hx⟩ : ∃ x, frameP (l.size : Int) b = x := ⟨_, rfl⟩
    obtain ⟨s1, e1, h1⟩ : ∃ s1 e1, append s l.file x = (s1, e1) := ⟨_, _, rfl⟩
    have hxl : x.length ≤ 1000000000 := by
      rw [← hx]
      have := frameP_len (l.size : Int) b (by omega) (by omega) hbl
      omega
    by_cases he1 : e1 = 0
    case neg =>
      have e : appJ s l b = (s1, { l with down := decide (e1 = 24) }, e1) := by unfold appJ; rw [if_neg (by omega), if_neg (by rw [hdn]; simp), hx, h1, if_neg he1]
      rw [e]
      clear e
      have HX := Lib.hid hx
      have H1 := Lib.hid h1
      have HXL := Lib.hid hxl
      have HBL := Lib.hid hbl
      have HDN := Lib.hid hdn
      clear h hl hnb hdn hx h1 hxl hbl
      go_enter_defers Try.func14, Try.ntmps14
      have hmf : ∀ (fn : Fn) (first cap : Array Value) (w : World), (Instr.makeFunc fn first cap).run Try.prog w = .ok (.func fn first cap) w := fun _ _ _ _ => rfl
      go_wp2_with fail
      obtain ⟨w0, hw0⟩ : ∃ w0, (w.alloc (Obj.cells #[Value.pointer (some ⟨gl, 0, none⟩)] 26)).alloc (Obj.cells #[Value.int IntKind.i64 0] 28) = w0 := ⟨_, rfl⟩
      obtain ⟨Bl, hBl⟩ : ∃ Bl, w.heap.size = Bl := ⟨_, rfl⟩
      have hn0 : New w w0 := by rw [← hw0]; exact ((Chg.refl _ w).alloc _).alloc _
      have hb1 : Blk w0 Bl 26 #[.pointer (some ⟨gl, 0, none⟩)] := by rw [← hw0, ← hBl]; exact (Blk.new w _ _).alloc _
      have hb2 : Blk w0 (Bl + 1) 28 #[.int .i64 0] := by rw [← hw0, ← hBl, ← World.size_alloc w (Obj.cells #[Value.pointer (some ⟨gl, 0, none⟩)] 26)]; exact Blk.new _ _ _
      rw [hw0]
      rw [hBl] at hglt hB ⊢
      have hd0 := HH.out.new hn0
      have hl0 := HL.out.chg hn0 (fun h => h)
      have hlt0 : ∀ k, ownD g m V k → k < Bl := fun k hk => by have := HH.out.lt hk; omega
      have hrd0 := hb.new hn0
      have hsk : ∀ w', Chg (ownD g m V) w0 w' → w'.cell? ⟨Bl, 0, none⟩ = some (.pointer (some ⟨gl, 0, none⟩)) ∧ w'.cell? ⟨gl, 0, none⟩ = some (.pointer (some ⟨g, 0, none⟩)) ∧ w'.cell? ⟨gl, 1, none⟩ = some (.int .i64 l.file) ∧ w'.cell? ⟨gl, 2, none⟩ = some (.int .i64 (l.size : Int)) := fun w' hc => ⟨(hb1.chg hc (fun ho => by have := hlt0 _ ho; omega)).cell 0 rfl, (hl0.chg hc hno).cell 0 rfl, (hl0.chg hc hno).cell 1 rfl, (hl0.chg hc hno).cell 2 rfl⟩
      have hq0 : ∀ W', New w0 W' → Calls Try.prog 13 #[.int .i64 (l.size : Int), .slice B nb cb] W' fun e w' => ∃ A' c', e = .returned (.slice A' x.length c') ∧ w'.ownsRow W'.heap.size 5 1 (.slice A' x.length c') x.length (bs x) ∧ New W' w' := fun W' h => by
        have q := frame_any (l.size : Int) B nb cb b W' (by omega) (by omega) (hrd0.new h) (by have := HNB.out; have := HBL.out; omega) (fun k hk => by have h1 := hB k hk; have h2 := hn0.size; have h3 := h.size; omega)
        rw [HX.out] at q
        exact q
      have hq1 : ∀ W' A c, New w0 W' → Rd W' A x.length (bs x) → Calls Try.prog 19 #[.pointer (some ⟨g, 0, none⟩), .int .i64 l.file, .slice A x.length c] W' fun e w' => e = .returned (.int .i64 e1) ∧ ∃ V', DI w' g m V' s1 ∧ Did W' w' g m V V' := fun W' A c h hr => by
        have q := dAppend_any g m V s W' (hd0.new h) l.file A x.length c x hr HXL.out
        rw [H1.out] at q
        exact q
      have HQ0 := Lib.hid hq0
      have HQ1 := Lib.hid hq1
      have HSK := Lib.hid hsk
      have HLT := Lib.hid hlt0
      have HL0 := Lib.hid hl0
      have HB1 := Lib.hid hb1
      have HB2 := Lib.hid hb2
      have hN0 : Chg (ownD g m V) w0 w0 := Chg.refl _ _
      have hN1 : Chg (ownD g m V) w0 w0.drew := (Chg.refl _ _).drew
      have HNn := Lib.hid hn0
      have HZ := Lib.hid (show w.heap.size + 1 < w0.heap.size by rw [← hw0]; simp)
      obtain ⟨hs0, hs1, hs2, hs3⟩ := hsk w0 (Chg.refl _ _)
      clear hq0 hq1 hsk hlt0 hl0 hb1 hb2 hd0 hrd0 hb hB hn0 hg0 hg1 hg2 hg3
      go_region_held3 (fun w' => w'.cell? ⟨Bl, 0, none⟩ = some (.pointer (some ⟨gl, 0, none⟩)) ∧ w'.cell? ⟨gl, 0, none⟩ = some (.pointer (some ⟨g, 0, none⟩)) ∧ w'.cell? ⟨gl, 1, none⟩ = some (.int .i64 l.file) ∧ w'.cell? ⟨gl, 2, none⟩ = some (.int .i64 (l.size : Int))) (first | exact HSK.out _ (by assumption))
        (first
        | (go_at_call 13; (with_reducible refine (HQ0.out _ ?_).mono ?_); (first | exact (Chg.refl _ _).drew | exact Chg.refl _ _); rintro e w5 ⟨A5, c5, rfl, own5, new5⟩; (have HB5 : New w0 w5 := by (first | exact ((Chg.refl _ _).drew).new new5 | exact new5)); (have HC5 : Chg (ownD g m V) w0 w5 := HB5.mono (fun _ _ hf => hf.elim)))
        | (go_at_call 19; (with_reducible refine (HQ1.out _ _ _ HB5 (Rd.of_own own5)).mono ?_); rintro e w6 ⟨rfl, V6, hd6, hdid6⟩; (have HC6 : Chg (ownD g m V) w0 w6 := HC5.trans hdid6.chg (fun k hk ho => ho))))
      have hbe := HB2.out.chg HC6 (fun ho => by have := HLT.out _ ho; omega)
      have hce := hbe.cell 0 (u := .int .i64 0) rfl
      have hfe := hbe.frozen 0
      have hge := hbe.lt
      have HBE := Lib.hid hbe
      clear hbe
      go_wp2
      have hch : Chg (fun k => k = Bl + 1) w6 (w6.setCell ⟨Bl + 1, 0, none⟩ (.int .i64 e1)) := (Chg.refl (fun k => k = Bl + 1) w6).setCell (p := ⟨Bl + 1, 0, none⟩) (fun _ => rfl) (.int .i64 e1)
      change Leaves _ _ _ _ _ _ _
      refine app_door (l := l) (Be := Bl + 1) (Bl := Bl) (cd := e1) ((HL0.out.chg HC6 hno).chg hch (by omega)) ((HB1.out.chg HC6 (fun ho => by have := HLT.out _ ho; omega)).chg hch (by omega)) (by have := HBE.out.set_ 0 (.int .i64 e1); simpa using this) (by omega) rfl ?_
      intro w2 hc2 hl2
      subst hBl
      refine app_fin HH.out hglt hno HNn.out HZ.out HB5 hdid6 hd6 ((hch.mono (fun _ _ e => .inl e)).trans hc2 (fun _ _ e => .inr e)) ?_
      have ed : (if e1 = 24 then true else l.down) = decide (e1 = 24) := by rw [HDN.out]; by_cases h : e1 = 24 <;> simp [h]
      rwa [ed] at hl2
    subst he1
    obtain ⟨s2, e2, h2⟩ : ∃ s2 e2, sync s1 = (s2, e2) := ⟨_, _, rfl⟩
    have H2 := Lib.hid h2
    by_cases he2 : e2 = 0
    case neg =>
      have e : appJ s l b = (s2, { l with down := decide (e2 = 24) }, e2) := by unfold appJ; rw [if_neg (by omega), if_neg (by rw [hdn]; simp), hx, h1, if_pos rfl]; dsimp only; rw [h2, if_neg he2]
      rw [e]
      clear e h2
      have HX := Lib.hid hx
      have H1 := Lib.hid h1
      have HXL := Lib.hid hxl
      have HBL := Lib.hid hbl
      have HDN := Lib.hid hdn
      clear h hl hnb hdn hx h1 hxl hbl
      go_enter_defers Try.func14, Try.ntmps14
      have hmf : ∀ (fn : Fn) (first cap : Array Value) (w : World), (Instr.makeFunc fn first cap).run Try.prog w = .ok (.func fn first cap) w := fun _ _ _ _ => rfl
      go_wp2_with fail
      obtain ⟨w0, hw0⟩ : ∃ w0, (w.alloc (Obj.cells #[Value.pointer (some ⟨gl, 0, none⟩)] 26)).alloc (Obj.cells #[Value.int IntKind.i64 0] 28) = w0 := ⟨_, rfl⟩
      obtain ⟨Bl, hBl⟩ : ∃ Bl, w.heap.size = Bl := ⟨_, rfl⟩
      have hn0 : New w w0 := by rw [← hw0]; exact ((Chg.refl _ w).alloc _).alloc _
      have hb1 : Blk w0 Bl 26 #[.pointer (some ⟨gl, 0, none⟩)] := by rw [← hw0, ← hBl]; exact (Blk.new w _ _).alloc _
      have hb2 : Blk w0 (Bl + 1) 28 #[.int .i64 0] := by rw [← hw0, ← hBl, ← World.size_alloc w (Obj.cells #[Value.pointer (some ⟨gl, 0, none⟩)] 26)]; exact Blk.new _ _ _
      rw [hw0]
      rw [hBl] at hglt hB ⊢
      have hd0 := HH.out.new hn0
      have hl0 := HL.out.chg hn0 (fun h => h)
      have hlt0 : ∀ k, ownD g m V k → k < Bl := fun k hk => by have := HH.out.lt hk; omega
      have hrd0 := hb.new hn0
      have hsk : ∀ w', Chg (ownD g m V) w0 w' → w'.cell? ⟨Bl, 0, none⟩ = some (.pointer (some ⟨gl, 0, none⟩)) ∧ w'.cell? ⟨gl, 0, none⟩ = some (.pointer (some ⟨g, 0, none⟩)) ∧ w'.cell? ⟨gl, 1, none⟩ = some (.int .i64 l.file) ∧ w'.cell? ⟨gl, 2, none⟩ = some (.int .i64 (l.size : Int)) := fun w' hc => ⟨(hb1.chg hc (fun ho => by have := hlt0 _ ho; omega)).cell 0 rfl, (hl0.chg hc hno).cell 0 rfl, (hl0.chg hc hno).cell 1 rfl, (hl0.chg hc hno).cell 2 rfl⟩
      have hq0 : ∀ W', New w0 W' → Calls Try.prog 13 #[.int .i64 (l.size : Int), .slice B nb cb] W' fun e w' => ∃ A' c', e = .returned (.slice A' x.length c') ∧ w'.ownsRow W'.heap.size 5 1 (.slice A' x.length c') x.length (bs x) ∧ New W' w' := fun W' h => by
        have q := frame_any (l.size : Int) B nb cb b W' (by omega) (by omega) (hrd0.new h) (by have := HNB.out; have := HBL.out; omega) (fun k hk => by have h1 := hB k hk; have h2 := hn0.size; have h3 := h.size; omega)
        rw [HX.out] at q
        exact q
      have hq1 : ∀ W' A c, New w0 W' → Rd W' A x.length (bs x) → Calls Try.prog 19 #[.pointer (some ⟨g, 0, none⟩), .int .i64 l.file, .slice A x.length c] W' fun e w' => e = .returned (.int .i64 0) ∧ ∃ V', DI w' g m V' s1 ∧ Did W' w' g m V V' := fun W' A c h hr => by
        have q := dAppend_any g m V s W' (hd0.new h) l.file A x.length c x hr HXL.out
        rw [H1.out] at q
        exact q
      have HQ0 := Lib.hid hq0
      have HQ1 := Lib.hid hq1
      have HSK := Lib.hid hsk
      have HLT := Lib.hid hlt0
      have HL0 := Lib.hid hl0
      have HB1 := Lib.hid hb1
      have HB2 := Lib.hid hb2
      have hN0 : Chg (ownD g m V) w0 w0 := Chg.refl _ _
      have hN1 : Chg (ownD g m V) w0 w0.drew := (Chg.refl _ _).drew
      have HNn := Lib.hid hn0
      have HZ := Lib.hid (show w.heap.size + 1 < w0.heap.size by rw [← hw0]; simp)
      obtain ⟨hs0, hs1, hs2, hs3⟩ := hsk w0 (Chg.refl _ _)
      clear hq0 hq1 hsk hlt0 hl0 hb1 hb2 hd0 hrd0 hb hB hn0 hg0 hg1 hg2 hg3
      go_region_held3 (fun w' => w'.cell? ⟨Bl, 0, none⟩ = some (.pointer (some ⟨gl, 0, none⟩)) ∧ w'.cell? ⟨gl, 0, none⟩ = some (.pointer (some ⟨g, 0, none⟩)) ∧ w'.cell? ⟨gl, 1, none⟩ = some (.int .i64 l.file) ∧ w'.cell? ⟨gl, 2, none⟩ = some (.int .i64 (l.size : Int))) (first | exact HSK.out _ (by assumption))
        (first
        | (go_at_call 13; (with_reducible refine (HQ0.out _ ?_).mono ?_); (first | exact (Chg.refl _ _).drew | exact Chg.refl _ _); rintro e w5 ⟨A5, c5, rfl, own5, new5⟩; (have HB5 : New w0 w5 := by (first | exact ((Chg.refl _ _).drew).new new5 | exact new5)); (have HC5 : Chg (ownD g m V) w0 w5 := HB5.mono (fun _ _ hf => hf.elim)))
        | (go_at_call 19; (with_reducible refine (HQ1.out _ _ _ HB5 (Rd.of_own own5)).mono ?_); rintro e w6 ⟨rfl, V6, hd6, hdid6⟩; (have HC6 : Chg (ownD g m V) w0 w6 := HC5.trans hdid6.chg (fun k hk ho => ho))))
      obtain ⟨hs0, hs1, hs2, hs3⟩ := HSK.out _ HC6
      go_wp2_with (go_at_call 33; refine (dSync_any g m V6 s1 _ hd6).mono ?_; rw [H2.out]; rintro e w7 ⟨rfl, hd7, hdid7⟩; (have HC7 : Chg (ownD g m V) w0 w7 := HC5.trans (hdid6.trans hdid7).chg (fun k hk ho => ho)); have hbe := HB2.out.chg HC7 (fun ho => by have := HLT.out _ ho; omega); have hce := hbe.cell 0 (u := .int .i64 0) rfl; have hfe := hbe.frozen 0; have hge := hbe.lt; have HBE := Lib.hid hbe; clear hbe)
      have hch : Chg (fun k => k = Bl + 1) w7 (w7.setCell ⟨Bl + 1, 0, none⟩ (.int .i64 e2)) := (Chg.refl (fun k => k = Bl + 1) w7).setCell (p := ⟨Bl + 1, 0, none⟩) (fun _ => rfl) (.int .i64 e2)
      change Leaves _ _ _ _ _ _ _
      refine app_door (l := l) (Be := Bl + 1) (Bl := Bl) (cd := e2) ((HL0.out.chg HC7 hno).chg hch (by omega)) ((HB1.out.chg HC7 (fun ho => by have := HLT.out _ ho; omega)).chg hch (by omega)) (by have := HBE.out.set_ 0 (.int .i64 e2); simpa using this) (by omega) rfl ?_
      intro w2 hc2 hl2
      subst hBl
      refine app_fin HH.out hglt hno HNn.out HZ.out HB5 (hdid6.trans hdid7) hd7 ((hch.mono (fun _ _ e => .inl e)).trans hc2 (fun _ _ e => .inr e)) ?_
      have ed : (if e2 = 24 then true else l.down) = decide (e2 = 24) := by rw [HDN.out]; by_cases h : e2 = 24 <;> simp [h]
      rwa [ed] at hl2
    subst he2
    have e : appJ s l b = (s2, { l with size := l.size + 1 }, 0) := by unfold appJ; rw [if_neg (by omega), if_neg (by rw [hdn]; simp), hx, h1, if_pos rfl]; dsimp only; rw [h2, if_pos rfl]
    rw [e]
    clear e h2
    have HX := Lib.hid hx
    have H1 := Lib.hid h1
    have HXL := Lib.hid hxl
    have HBL := Lib.hid hbl
    have HDN := Lib.hid hdn
    clear h hl hnb hdn hx h1 hxl hbl
    go_enter_defers Try.func14, Try.ntmps14
    have hmf : ∀ (fn : Fn) (first cap : Array Value) (w : World), (Instr.makeFunc fn first cap).run Try.prog w = .ok (.func fn first cap) w := fun _ _ _ _ => rfl
    go_wp2_with fail
    obtain ⟨w0, hw0⟩ : ∃ w0, (w.alloc (Obj.cells #[Value.pointer (some ⟨gl, 0, none⟩)] 26)).alloc (Obj.cells #[Value.int IntKind.i64 0] 28) = w0 := ⟨_, rfl⟩
    obtain ⟨Bl, hBl⟩ : ∃ Bl, w.heap.size = Bl := ⟨_, rfl⟩
    have hn0 : New w w0 := by rw [← hw0]; exact ((Chg.refl _ w).alloc _).alloc _
    have hb1 : Blk w0 Bl 26 #[.pointer (some ⟨gl, 0, none⟩)] := by rw [← hw0, ← hBl]; exact (Blk.new w _ _).alloc _
    have hb2 : Blk w0 (Bl + 1) 28 #[.int .i64 0] := by rw [← hw0, ← hBl, ← World.size_alloc w (Obj.cells #[Value.pointer (some ⟨gl, 0, none⟩)] 26)]; exact Blk.new _ _ _
    rw [hw0]
    rw [hBl] at hglt hB ⊢
    have hd0 := HH.out.new hn0
    have hl0 := HL.out.chg hn0 (fun h => h)
    have hlt0 : ∀ k, ownD g m V k → k < Bl := fun k hk => by have := HH.out.lt hk; omega
    have hrd0 := hb.new hn0
    have hsk : ∀ w', Chg (ownD g m V) w0 w' → w'.cell? ⟨Bl, 0, none⟩ = some (.pointer (some ⟨gl, 0, none⟩)) ∧ w'.cell? ⟨gl, 0, none⟩ = some (.pointer (some ⟨g, 0, none⟩)) ∧ w'.cell? ⟨gl, 1, none⟩ = some (.int .i64 l.file) ∧ w'.cell? ⟨gl, 2, none⟩ = some (.int .i64 (l.size : Int)) := fun w' hc => ⟨(hb1.chg hc (fun ho => by have := hlt0 _ ho; omega)).cell 0 rfl, (hl0.chg hc hno).cell 0 rfl, (hl0.chg hc hno).cell 1 rfl, (hl0.chg hc hno).cell 2 rfl⟩
    have hq0 : ∀ W', New w0 W' → Calls Try.prog 13 #[.int .i64 (l.size : Int), .slice B nb cb] W' fun e w' => ∃ A' c', e = .returned (.slice A' x.length c') ∧ w'.ownsRow W'.heap.size 5 1 (.slice A' x.length c') x.length (bs x) ∧ New W' w' := fun W' h => by
      have q := frame_any (l.size : Int) B nb cb b W' (by omega) (by omega) (hrd0.new h) (by have := HNB.out; have := HBL.out; omega) (fun k hk => by have h1 := hB k hk; have h2 := hn0.size; have h3 := h.size; omega)
      rw [HX.out] at q
      exact q
    have hq1 : ∀ W' A c, New w0 W' → Rd W' A x.length (bs x) → Calls Try.prog 19 #[.pointer (some ⟨g, 0, none⟩), .int .i64 l.file, .slice A x.length c] W' fun e w' => e = .returned (.int .i64 0) ∧ ∃ V', DI w' g m V' s1 ∧ Did W' w' g m V V' := fun W' A c h hr => by
      have q := dAppend_any g m V s W' (hd0.new h) l.file A x.length c x hr HXL.out
      rw [H1.out] at q
      exact q
    have HQ0 := Lib.hid hq0
    have HQ1 := Lib.hid hq1
    have HSK := Lib.hid hsk
    have HLT := Lib.hid hlt0
    have HL0 := Lib.hid hl0
    have HB1 := Lib.hid hb1
    have HB2 := Lib.hid hb2
    have hN0 : Chg (ownD g m V) w0 w0 := Chg.refl _ _
    have hN1 : Chg (ownD g m V) w0 w0.drew := (Chg.refl _ _).drew
    have HNn := Lib.hid hn0
    have HZ := Lib.hid (show w.heap.size + 1 < w0.heap.size by rw [← hw0]; simp)
    obtain ⟨hs0, hs1, hs2, hs3⟩ := hsk w0 (Chg.refl _ _)
    clear hq0 hq1 hsk hlt0 hl0 hb1 hb2 hd0 hrd0 hb hB hn0 hg0 hg1 hg2 hg3
    go_region_held3 (fun w' => w'.cell? ⟨Bl, 0, none⟩ = some (.pointer (some ⟨gl, 0, none⟩)) ∧ w'.cell? ⟨gl, 0, none⟩ = some (.pointer (some ⟨g, 0, none⟩)) ∧ w'.cell? ⟨gl, 1, none⟩ = some (.int .i64 l.file) ∧ w'.cell? ⟨gl, 2, none⟩ = some (.int .i64 (l.size : Int))) (first | exact HSK.out _ (by assumption))
      (first
      | (go_at_call 13; (with_reducible refine (HQ0.out _ ?_).mono ?_); (first | exact (Chg.refl _ _).drew | exact Chg.refl _ _); rintro e w5 ⟨A5, c5, rfl, own5, new5⟩; (have HB5 : New w0 w5 := by (first | exact ((Chg.refl _ _).drew).new new5 | exact new5)); (have HC5 : Chg (ownD g m V) w0 w5 := HB5.mono (fun _ _ hf => hf.elim)))
      | (go_at_call 19; (with_reducible refine (HQ1.out _ _ _ HB5 (Rd.of_own own5)).mono ?_); rintro e w6 ⟨rfl, V6, hd6, hdid6⟩; (have HC6 : Chg (ownD g m V) w0 w6 := HC5.trans hdid6.chg (fun k hk ho => ho))))
    obtain ⟨hs0, hs1, hs2, hs3⟩ := HSK.out _ HC6
    go_wp2_with (go_at_call 33; refine (dSync_any g m V6 s1 _ hd6).mono ?_; rw [H2.out]; rintro e w7 ⟨rfl, hd7, hdid7⟩; (have HC7 : Chg (ownD g m V) w0 w7 := HC5.trans (hdid6.trans hdid7).chg (fun k hk ho => ho)); have hbe := HB2.out.chg HC7 (fun ho => by have := HLT.out _ ho; omega); have hce := hbe.cell 0 (u := .int .i64 0) rfl; have hfe := hbe.frozen 0; have hge := hbe.lt; have HBE := Lib.hid hbe; obtain ⟨hz0, hz1, hz2, hz3⟩ := HSK.out _ HC7; have hlb := HL0.out.chg HC7 hno; have hlf := hlb.frozen 2; have hll := hlb.lt; clear hbe hlb)
    have hch1 : Chg (fun k => k = gl) w7 (w7.setCell ⟨gl, 2, none⟩ (.int .i64 ((l.size : Int) + 1))) := (Chg.refl (fun k => k = gl) w7).setCell (p := ⟨gl, 2, none⟩) (fun _ => rfl) (.int .i64 ((l.size : Int) + 1))
    have hl8 : Blk (w7.setCell ⟨gl, 2, none⟩ (.int .i64 ((l.size : Int) + 1))) gl 65 (lgCells g { l with size := l.size + 1 }) := by
      have := (HL0.out.chg HC7 hno).set_ 2 (.int .i64 ((l.size : Int) + 1))
      simpa [lgCells] using this
    have hb8 : Blk (w7.setCell ⟨gl, 2, none⟩ (.int .i64 ((l.size : Int) + 1))) Bl 26 #[.pointer (some ⟨gl, 0, none⟩)] := (HB1.out.chg HC7 (fun ho => by have := HLT.out _ ho; omega)).chg hch1 (by omega)
    have he8 := HBE.out.chg hch1 (by omega)
    obtain ⟨w8, hw8⟩ : ∃ w8, w7.setCell ⟨gl, 2, none⟩ (.int .i64 ((l.size : Int) + 1)) = w8 := ⟨_, rfl⟩
    rw [hw8] at hch1 hl8 hb8 he8 ⊢
    have hch : Chg (fun k => k = Bl + 1) w8 (w8.setCell ⟨Bl + 1, 0, none⟩ (.int .i64 0)) := (Chg.refl (fun k => k = Bl + 1) w8).setCell (p := ⟨Bl + 1, 0, none⟩) (fun _ => rfl) (.int .i64 0)
    change Leaves _ _ _ _ _ _ _
    refine app_door (l := { l with size := l.size + 1 }) (Be := Bl + 1) (Bl := Bl) (cd := 0) (hl8.chg hch (by omega)) (hb8.chg hch (by omega)) (by have := he8.set_ 0 (.int .i64 0); simpa using this) (by omega) rfl ?_
    intro w2 hc2 hl2
    subst hBl
    refine app_fin HH.out hglt hno HNn.out HZ.out HB5 (hdid6.trans hdid7) hd7 (((hch1.mono (fun _ _ e => .inr e)).trans hch (fun _ _ e => .inl e)).trans hc2 (fun _ _ e => .inr e)) ?_
    rwa [if_neg (by omega)] at hl2
end Go.Proofs.Ytffehmfjcglalaa
