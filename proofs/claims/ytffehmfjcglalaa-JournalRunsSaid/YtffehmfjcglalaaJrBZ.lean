/- Contract of the reference's journal: Append. -/
import Derived.Test.YtffehmfjcglalaaJrAZ
import Derived.Deep.RegionHeld3
set_option linter.unusedSimpArgs false
set_option linter.unusedVariables false
namespace Go.Proofs.Ytffehmfjcglalaa
set_option linter.unusedVariables false
open Go.RowKit Go.Mem Go.Dk Go.Pure Go.Jn

/-- What Append leaves. -/
def RAppV (w w' : World) (g b f gl : Nat) (V : Nat → Value) (r : S × Lg × Int) (e : Ending) : Prop :=
  e = .returned (.int .i64 r.2.2) ∧ ∃ V', RI w' g b f V' r.1 ∧ Blk w' gl 50 (lgCells g r.2.1) ∧ Chg (fun k => ownR g b f V k ∨ k = gl) w w' ∧ ∀ k, ownR g b f V' k → ownR g b f V k ∨ w.heap.size ≤ k
theorem RAppV.same {w w' : World} {g b f gl : Nat} {V : Nat → Value} {s : S} {l : Lg} {cd : Int} {e : Ending} (h : RI w g b f V s) (hl : Blk w gl 50 (lgCells g l)) (he : e = .returned (.int .i64 cd)) (hn : New w w') : RAppV w w' g b f gl V (s, l, cd) e :=
  ⟨he, V, h.new hn, hl.chg hn (fun h => h), hn.mono (fun _ _ hf => hf.elim), fun k hk => .inl hk⟩
theorem rapp_fin {w w5 w6 w2 : World} {g b f gl : Nat} {V V6 : Nat → Value} {s s1 : S} {l' : Lg} {cd : Int} {e : Ending} (hd : RI w g b f V s) (hlt : gl < w.heap.size) (hno : ¬ ownR g b f V gl) (hn5 : New w w5) (hdid : DidR w5 w6 g b f V V6) (hd6 : RI w6 g b f V6 s1) (hc : Chg (fun k => k = gl) w6 w2) (hl : Blk w2 gl 50 (lgCells g l')) (he : e = .returned (.int .i64 cd)) : RAppV w w2 g b f gl V (s1, l', cd) e := by
  have h5 := hn5.size
  have own6 : ∀ k, ownR g b f V6 k → ownR g b f V k ∨ w5.heap.size ≤ k := hdid.own
  refine ⟨he, V6, hd6.chg hc (fun k hk h => ?_), hl, ?_, fun k hk => ?_⟩
  · subst h
    rcases own6 k hk with h1 | h1
    · exact hno h1
    · omega
  · have c1 : Chg (fun k => ownR g b f V k ∨ k = gl) w w6 := (hn5.mono (fun _ _ hf => hf.elim)).trans hdid.chg (fun k _ ho => .inl ho)
    exact c1.trans hc (fun k hk h => .inr h)
  · rcases own6 k hk with h1 | h1
    · exact .inl h1
    · exact .inr (by omega)
theorem lg_down {g : Nat} {l : Lg} {x : Bool} : (lgCells g l).setIfInBounds 3 (.bool x) = lgCells g { l with down := x } := by simp [lgCells]
theorem lg_size {g n : Nat} {l : Lg} : (lgCells g l).setIfInBounds 2 (.int .i64 (n : Int)) = lgCells g { l with size := n } := by simp [lgCells]

set_option maxHeartbeats 2000000 in
set_option maxRecDepth 100000 in
theorem rAppend07_any (g b f : Nat) (V : Nat → Value) (s : S) (gl : Nat) (l : Lg) (w : World) (h : RI w g b f V s) (hl : Blk w gl 50 (lgCells g l)) (hno : ¬ ownR g b f V gl) (B : Option Addr) (nb cb : Nat) (x0 : List UInt8) (hb : Rd w B nb (bs x0)) (hbl : x0.length ≤ 100000000) (hs : l.size ≤ 1000000000) :
    Calls Try.prog 27 #[.pointer (some ⟨gl, 0, none⟩), .slice B nb cb] w fun e w' => RAppV w w' g b f gl V (appJ s l x0) e := by
  have hnb : x0.length = nb := by have := hb.len; simpa using this
  have HNB := Lib.hid hnb
  have HH := Lib.hid h
  have HL := Lib.hid hl
  have hg0 := hl.cell 0 (u := .pointer (some ⟨g, 0, none⟩)) rfl
  have hg1 := hl.cell 1 (u := .int .i64 l.file) rfl
  have hg2 := hl.cell 2 (u := .int .i64 (l.size : Int)) rfl
  have hg3 := hl.cell 3 (u := .bool l.down) rfl
  have hglt := hl.lt
  by_cases h1 : 65536 < nb
  · have h1' : (65536 : Int) < (nb : Int) := by omega
    have e : appJ s l x0 = (s, l, 4) := by unfold appJ; rw [if_pos (by omega)]
    rw [e]
    clear h hl hb hnb e
    go_enter Try.func27, Try.ntmps27
    go_wp2
    go_ret
    exact RAppV.same HH.out HL.out rfl (Chg.refl _ _)
  have h1' : (nb : Int) ≤ 65536 := by omega
  cases hdn : l.down with
  | true =>
    have e : appJ s l x0 = (s, l, 24) := by unfold appJ; rw [if_neg (by omega), if_pos hdn]
    rw [e]
    rw [hdn] at hg3
    clear h hl hb hnb e hdn
    go_enter Try.func27, Try.ntmps27
    go_wp2
    go_ret
    exact RAppV.same HH.out HL.out rfl (Chg.refl _ _)
  | false =>
    rw [hdn] at hg3
    obtain ⟨x, hx⟩ : ∃ x, frameP (l.size : Int) x0 = x := ⟨_, rfl⟩
    obtain ⟨s1, e1, h1⟩ : ∃ s1 e1, append s l.file x = (s1, e1) := ⟨_, _, rfl⟩
    have hxl : x.length ≤ 1000000000 := by
      rw [← hx]
      have := frameP_len (l.size : Int) x0 (by omega) (by omega) hbl
      omega
    have hrd0 := hb
    have hsk : ∀ w', Chg (ownR g b f V) w w' → w'.cell? ⟨gl, 0, none⟩ = some (.pointer (some ⟨g, 0, none⟩)) ∧ w'.cell? ⟨gl, 1, none⟩ = some (.int .i64 l.file) ∧ w'.cell? ⟨gl, 2, none⟩ = some (.int .i64 (l.size : Int)) := fun w' hc => ⟨(hl.chg hc hno).cell 0 rfl, (hl.chg hc hno).cell 1 rfl, (hl.chg hc hno).cell 2 rfl⟩
    have hq0 : ∀ W', New w W' → Calls Try.prog 49 #[.int .i64 (l.size : Int), .slice B nb cb] W' fun e w' => ∃ A' c', e = .returned (.slice A' x.length c') ∧ w'.ownsRow W'.heap.size 5 1 (.slice A' x.length c') x.length (bs x) ∧ New W' w' := fun W' h => by
      refine (refFrame_any (l.size : Int) B nb cb x0 W' (by omega) (by omega) (hrd0.new h) (by omega)).mono ?_
      rw [hx]
      rintro e w' ⟨A', m', c', rfl, q1, q2⟩
      obtain rfl : x.length = m' := by have := q1.1; simpa using this
      exact ⟨A', c', rfl, q1, q2⟩
    have hq1 : ∀ W' A c, New w W' → Rd W' A x.length (bs x) → Calls Try.prog 48 #[.pointer (some ⟨g, 0, none⟩), .int .i64 l.file, .slice A x.length c] W' fun e w' => e = .returned (.int .i64 e1) ∧ ∃ V', RI w' g b f V' s1 ∧ DidR W' w' g b f V V' := fun W' A c h' hr => by
      have q := rAppend_any g b f V s W' (h.new h') l.file A x.length c x hr hxl
      rw [h1] at q
      exact q
    have HQ0 := Lib.hid hq0
    have HQ1 := Lib.hid hq1
    have HSK := Lib.hid hsk
    have HDN := Lib.hid hdn
    by_cases he1 : e1 = 0
    case neg =>
      have e : appJ s l x0 = (s1, { l with down := decide (e1 = 24) }, e1) := by unfold appJ; rw [if_neg (by omega), if_neg (by rw [hdn]; simp), hx, h1, if_neg he1]
      rw [e]
      clear e h hl hb hnb hx h1 hxl hrd0 hsk hq0 hq1 hdn
      go_enter Try.func27, Try.ntmps27
      go_wp2_with fail
      have hN0 : Chg (ownR g b f V) w w := Chg.refl _ _
      have hN1 : Chg (ownR g b f V) w w.drew := (Chg.refl _ _).drew
      go_region_held3 (fun w' => w'.cell? ⟨gl, 0, none⟩ = some (.pointer (some ⟨g, 0, none⟩)) ∧ w'.cell? ⟨gl, 1, none⟩ = some (.int .i64 l.file) ∧ w'.cell? ⟨gl, 2, none⟩ = some (.int .i64 (l.size : Int))) (first | exact HSK.out _ (by assumption))
        (first
        | (go_at_call 49; (with_reducible refine (HQ0.out _ ?_).mono ?_); (first | exact (Chg.refl _ _).drew | exact Chg.refl _ _); rintro e w5 ⟨A5, c5, rfl, own5, new5⟩; (have HB5 : New w w5 := by (first | exact ((Chg.refl _ _).drew).new new5 | exact new5)); (have HC5 : Chg (ownR g b f V) w w5 := HB5.mono (fun _ _ hf => hf.elim)))
        | (go_at_call 48; (with_reducible refine (HQ1.out _ _ _ HB5 (Rd.of_own own5)).mono ?_); rintro e w6 ⟨rfl, V6, hd6, hdid6⟩; (have HC6 : Chg (ownR g b f V) w w6 := HC5.trans hdid6.chg (fun k hk ho => ho))))
      have hl6 := HL.out.chg HC6 hno
      have hf3 := hl6.frozen 3
      have hc3 := hl6.cell 3 (u := .bool l.down) rfl
      have hg6 := hl6.lt
      have HL6 := Lib.hid hl6
      clear hl6
      go_wp2
      go_ret
      refine rapp_fin HH.out hglt hno HB5 hdid6 hd6 ((Chg.refl (fun k => k = gl) w6).setCell (p := ⟨gl, 3, none⟩) (fun _ => rfl) _) ?_ rfl
      have q := HL6.out.set_ 3 (.bool (e1 == 24))
      rw [lg_down] at q
      exact q
    subst he1
    obtain ⟨s2, e2, h2⟩ : ∃ s2 e2, sync s1 = (s2, e2) := ⟨_, _, rfl⟩
    have H2 := Lib.hid h2
    by_cases he2 : e2 = 0
    case neg =>
      have e : appJ s l x0 = (s2, { l with down := decide (e2 = 24) }, e2) := by unfold appJ; rw [if_neg (by omega), if_neg (by rw [hdn]; simp), hx, h1, if_pos rfl]; dsimp only; rw [h2, if_neg he2]
      rw [e]
      clear e h hl hb hnb hx h1 hxl hrd0 hsk hq0 hq1 hdn h2
      go_enter Try.func27, Try.ntmps27
      go_wp2_with fail
      have hN0 : Chg (ownR g b f V) w w := Chg.refl _ _
      have hN1 : Chg (ownR g b f V) w w.drew := (Chg.refl _ _).drew
      go_region_held3 (fun w' => w'.cell? ⟨gl, 0, none⟩ = some (.pointer (some ⟨g, 0, none⟩)) ∧ w'.cell? ⟨gl, 1, none⟩ = some (.int .i64 l.file) ∧ w'.cell? ⟨gl, 2, none⟩ = some (.int .i64 (l.size : Int))) (first | exact HSK.out _ (by assumption))
        (first
        | (go_at_call 49; (with_reducible refine (HQ0.out _ ?_).mono ?_); (first | exact (Chg.refl _ _).drew | exact Chg.refl _ _); rintro e w5 ⟨A5, c5, rfl, own5, new5⟩; (have HB5 : New w w5 := by (first | exact ((Chg.refl _ _).drew).new new5 | exact new5)); (have HC5 : Chg (ownR g b f V) w w5 := HB5.mono (fun _ _ hf => hf.elim)))
        | (go_at_call 48; (with_reducible refine (HQ1.out _ _ _ HB5 (Rd.of_own own5)).mono ?_); rintro e w6 ⟨rfl, V6, hd6, hdid6⟩; (have HC6 : Chg (ownR g b f V) w w6 := HC5.trans hdid6.chg (fun k hk ho => ho))))
      obtain ⟨hz0, _, _⟩ := HSK.out _ HC6
      go_wp2_with (go_at_call 46; refine (rSync_any g b f V6 s1 _ hd6).mono ?_; rw [H2.out]; rintro e w7 ⟨rfl, hd7, hdid7⟩; (have HC7 : Chg (ownR g b f V) w w7 := HC5.trans (hdid6.trans hdid7).chg (fun k hk ho => ho)); have hl6 := HL.out.chg HC7 hno; have hf3 := hl6.frozen 3; have hc3 := hl6.cell 3 (u := .bool l.down) rfl; have hg6 := hl6.lt; have HL6 := Lib.hid hl6; clear hl6)
      go_ret
      refine rapp_fin HH.out hglt hno HB5 (hdid6.trans hdid7) hd7 ((Chg.refl (fun k => k = gl) w7).setCell (p := ⟨gl, 3, none⟩) (fun _ => rfl) _) ?_ rfl
      have q := HL6.out.set_ 3 (.bool (e2 == 24))
      rw [lg_down] at q
      exact q
    subst he2
    have e : appJ s l x0 = (s2, { l with size := l.size + 1 }, 0) := by unfold appJ; rw [if_neg (by omega), if_neg (by rw [hdn]; simp), hx, h1, if_pos rfl]; dsimp only; rw [h2, if_pos rfl]
    rw [e]
    clear e h hl hb hnb hx h1 hxl hrd0 hsk hq0 hq1 hdn h2
    go_enter Try.func27, Try.ntmps27
    go_wp2_with fail
    have hN0 : Chg (ownR g b f V) w w := Chg.refl _ _
    have hN1 : Chg (ownR g b f V) w w.drew := (Chg.refl _ _).drew
    go_region_held3 (fun w' => w'.cell? ⟨gl, 0, none⟩ = some (.pointer (some ⟨g, 0, none⟩)) ∧ w'.cell? ⟨gl, 1, none⟩ = some (.int .i64 l.file) ∧ w'.cell? ⟨gl, 2, none⟩ = some (.int .i64 (l.size : Int))) (first | exact HSK.out _ (by assumption))
      (first
      | (go_at_call 49; (with_reducible refine (HQ0.out _ ?_).mono ?_); (first | exact (Chg.refl _ _).drew | exact Chg.refl _ _); rintro e w5 ⟨A5, c5, rfl, own5, new5⟩; (have HB5 : New w w5 := by (first | exact ((Chg.refl _ _).drew).new new5 | exact new5)); (have HC5 : Chg (ownR g b f V) w w5 := HB5.mono (fun _ _ hf => hf.elim)))
      | (go_at_call 48; (with_reducible refine (HQ1.out _ _ _ HB5 (Rd.of_own own5)).mono ?_); rintro e w6 ⟨rfl, V6, hd6, hdid6⟩; (have HC6 : Chg (ownR g b f V) w w6 := HC5.trans hdid6.chg (fun k hk ho => ho))))
    obtain ⟨hz0, _, _⟩ := HSK.out _ HC6
    go_wp2_with (go_at_call 46; refine (rSync_any g b f V6 s1 _ hd6).mono ?_; rw [H2.out]; rintro e w7 ⟨rfl, hd7, hdid7⟩; (have HC7 : Chg (ownR g b f V) w w7 := HC5.trans (hdid6.trans hdid7).chg (fun k hk ho => ho)); have hl6 := HL.out.chg HC7 hno; have hf3 := hl6.frozen 3; have hc3 := hl6.cell 3 (u := .bool l.down) rfl; have hf2 := hl6.frozen 2; have hc2 := hl6.cell 2 (u := .int .i64 (l.size : Int)) rfl; have hg6 := hl6.lt; have HL6 := Lib.hid hl6; clear hl6)
    go_ret
    refine rapp_fin HH.out hglt hno HB5 (hdid6.trans hdid7) hd7 (((Chg.refl (fun k => k = gl) w7).setCell (p := ⟨gl, 3, none⟩) (fun _ => rfl) _).setCell (p := ⟨gl, 2, none⟩) (fun _ => rfl) _) ?_ rfl
    have q := (HL6.out.set_ 3 (.bool false)).set_ 2 (.int .i64 ((l.size : Int) + 1))
    have e2 : lgCells g { l with size := l.size + 1 } = ((lgCells g l).setIfInBounds 3 (.bool false)).setIfInBounds 2 (.int .i64 ((l.size : Int) + 1)) := by simp [lgCells, HDN.out]
    rw [e2]
    exact q
end Go.Proofs.Ytffehmfjcglalaa
