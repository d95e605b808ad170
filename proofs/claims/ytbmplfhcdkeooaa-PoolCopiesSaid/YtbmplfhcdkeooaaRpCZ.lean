/- What stores do to refuterref36.Pool; contracts of Revive, Die, Open. -/
import Derived.Test.YtbmplfhcdkeooaaRpBZ
import Derived.Test.YtbmplfhcdkeooaaG1
set_option linter.unusedSimpArgs false
set_option linter.unusedVariables false
namespace Go.Proofs.Ytbmplfhcdkeooaa
set_option linter.unusedVariables false
open Go.RowKit Go.Mem Go.Pl

section
variable {w w' : World} {h : Nat} {al jv tv : Value} {T U : Nat → Prop} {s : S}
theorem chg_one (w : World) (g i : Nat) (v : Value) : Chg (fun k => k = g) w (w.setCell ⟨g, i, none⟩ v) := (Chg.refl (fun k => k = g) w).setCell (p := ⟨g, i, none⟩) (fun _ => rfl) v
theorem RI.setTick (hr : RI w h al jv tv T s) (t : Int) : RI (w.setCell ⟨h, 2, none⟩ (.int .i64 t)) h al jv tv T { s with tick := t } := by
  have hc := chg_one w h 2 (.int .i64 t)
  obtain ⟨⟨n1, n2, n3⟩, _, _⟩ := hr.ne
  refine ⟨?_, ownN_chg hr.alive hc (fun k hk e => n1 (e ▸ hk)), hr.jobs.chg hc (fun k hk e => n2 (e ▸ hk)) (fun k hk e => (hr.sep k hk).2 (.inl e)), ownN_chg hr.tries hc (fun k hk e => n3 (e ▸ hk)), fun k hk => ⟨Nat.lt_of_lt_of_le (hr.sep k hk).1 hc.size, (hr.sep k hk).2⟩⟩
  have := hr.blk.set_ 2 (.int .i64 t)
  exact this
theorem RI.setAl (hr : RI w h al jv tv T s) {ga c k : Nat} (hv : al = .slice (some ⟨ga, 0, none⟩) s.alive.length c) (hk : k < s.alive.length) (b : Bool) : RI (w.setCell ⟨ga, k, none⟩ (.bool b)) h al jv tv T { s with alive := s.alive.set k b } := by
  have hc := chg_one w ga k (.bool b)
  obtain ⟨⟨n1, n2, n3⟩, m1, _⟩ := hr.ne
  have hb : al.ownBlock = some ga := by rw [hv]; rfl
  have ha := hr.alive
  rw [hv] at ha
  have ho := ownN_set ha (i := k) (by omega) (.bool b)
  have e : (boolsR s.alive).set k (.bool b) = boolsR (s.alive.set k b) := by simp [boolsR, List.map_set]
  rw [e] at ho
  refine ⟨hr.blk.chg hc (fun e => n1 (by rw [hb, e])), by rw [hv, List.length_set]; exact ho, hr.jobs.chg hc (fun q hq e => (m1 _ hb).1 (e ▸ hq)) (fun q hq e => (hr.sep q hq).2 (.inr (.inl (by rw [hb, e])))), ownN_chg hr.tries hc (fun q hq e => (m1 _ hb).2 (e ▸ hq)), fun q hq => ⟨Nat.lt_of_lt_of_le (hr.sep q hq).1 hc.size, (hr.sep q hq).2⟩⟩
theorem triesR_set {l : List Tr} {k : Nat} {t : Tr} (hk : l[k]? = some t) : (triesR l).set (k * 5 + 4) (.bool true) = triesR (l.set k { t with over := true }) := by
  induction l generalizing k with
  | nil => simp at hk
  | cons y r ih =>
    have e : ∀ (z : Tr) (q : List Tr), triesR (z :: q) = .int .i64 z.task :: .int .i64 z.num :: .int .i64 z.worker :: .int .i64 z.tick :: .bool z.over :: triesR q := fun z q => by simp [triesR, tryR]
    cases k with
    | zero =>
      have e2 : y = t := by simpa using hk
      subst e2
      rw [List.set_cons_zero, e, e]
      simp
    | succ k =>
      rw [List.set_cons_succ, e, e, ← ih (by simpa using hk), show (k + 1) * 5 + 4 = k * 5 + 4 + 1 + 1 + 1 + 1 + 1 by omega]
      simp
theorem RI.mark (hr : RI w h al jv tv T s) {gt c k : Nat} {t : Tr} (hv : tv = .slice (some ⟨gt, 0, none⟩) s.tries.length c) (hk : s.tries[k]? = some t) : RI (w.setCell ⟨gt, k * 5 + 4, none⟩ (.bool true)) h al jv tv T { s with tries := s.tries.set k { t with over := true } } := by
  have hc := chg_one w gt (k * 5 + 4) (.bool true)
  obtain ⟨⟨n1, n2, n3⟩, m1, m2⟩ := hr.ne
  have hkl := (List.getElem?_eq_some_iff.1 hk).1
  have hb : tv.ownBlock = some gt := by rw [hv]; rfl
  have ha := hr.tries
  rw [hv] at ha
  have ho := ownN_set ha (i := k * 5 + 4) (by omega) (.bool true)
  rw [triesR_set hk] at ho
  refine ⟨hr.blk.chg hc (fun e => n3 (by rw [hb, e])), ownN_chg hr.alive hc (fun q hq e => (m1 _ hq).2 (by rw [hb, e])), hr.jobs.chg hc (fun q hq e => m2 _ hq (by rw [hb, e])) (fun q hq e => (hr.sep q hq).2 (.inr (.inr (.inr (by rw [hb, e]))))), by rw [hv, List.length_set]; exact ho, fun q hq => ⟨Nat.lt_of_lt_of_le (hr.sep q hq).1 hc.size, (hr.sep q hq).2⟩⟩
theorem flat_set {n : Nat} {css : List (List Value)} (hl : ∀ y ∈ css, y.length = n) {k i : Nat} {cs : List Value} (hk : css[k]? = some cs) (hi : i < n) (u : Value) : css.flatten.set (k * n + i) u = (css.set k (cs.set i u)).flatten := by
  induction css generalizing k with
  | nil => simp at hk
  | cons y r ih =>
    have hy := hl y (by simp)
    cases k with
    | zero =>
      have e : y = cs := by simpa using hk
      subst e
      rw [List.set_cons_zero, List.flatten_cons, List.flatten_cons, Nat.zero_mul, Nat.zero_add, List.set_append_left _ _ (by omega)]
    | succ k =>
      rw [List.set_cons_succ, List.flatten_cons, List.flatten_cons, List.set_append_right _ _ (by rw [Nat.succ_mul]; omega), hy, show (k + 1) * n + i - n = k * n + i by rw [Nat.succ_mul]; omega, ih (fun z hz => hl z (by simp [hz])) (by simpa using hk)]
theorem RowJ.set_ {css : List (List Value)} (hr : RowJ w jv css) {gj c k i : Nat} {cs : List Value} (hv : jv = .slice (some ⟨gj, 0, none⟩) css.length c) (hk : css[k]? = some cs) (hi : i < 7) (u : Value) : RowJ (w.setCell ⟨gj, k * 7 + i, none⟩ u) jv (css.set k (cs.set i u)) := by
  have hkl := (List.getElem?_eq_some_iff.1 hk).1
  have hcl := hr.2 cs (List.mem_of_getElem? hk)
  refine ⟨?_, fun y hy => ?_⟩
  · have h1 := hr.1
    rw [hv] at h1
    have := ownN_set h1 (i := k * 7 + i) (by omega) u
    rw [flat_set hr.2 hk hi] at this
    rw [hv, List.length_set]
    exact this
  · rcases List.mem_or_eq_of_mem_set hy with hy | rfl
    · exact hr.2 y hy
    · rw [List.length_set]; exact hcl
/-- A task is given out once more. -/
theorem RI.setN (hr : RI w h al jv tv T s) {gj c k : Nat} {j : Job} (hv : jv = .slice (some ⟨gj, 0, none⟩) s.jobs.length c) (hk : s.jobs[k]? = some j) : RI (w.setCell ⟨gj, k * 7 + 2, none⟩ (.int .i64 ((j.n : Int) + 1))) h al jv tv T { s with jobs := s.jobs.set k { j with n := j.n + 1 } } := by
  have hc := chg_one w gj (k * 7 + 2) (.int .i64 ((j.n : Int) + 1))
  obtain ⟨⟨n1, n2, n3⟩, m1, m2⟩ := hr.ne
  have hb : jv.ownBlock = some gj := by rw [hv]; rfl
  have ht : ∀ q, T q → ¬ q = gj := fun q hq e => (hr.sep q hq).2 (.inr (.inr (.inl (by rw [hb, e]))))
  obtain ⟨css, h1, h2, h3⟩ := hr.jobs
  have hkl := (List.getElem?_eq_some_iff.1 hk).1
  obtain ⟨bv, av, q1, q2, q3⟩ := h3 k j hk
  refine ⟨hr.blk.chg hc (fun e => n2 (by rw [hb, e])), ownN_chg hr.alive hc (fun q hq e => (m1 _ hq).1 (by rw [hb, e])), ⟨_, h1.set_ (by rw [h2]; exact hv) q1 (by omega) _, by rw [List.length_set, List.length_set]; exact h2, fun i j' hj' => ?_⟩, ownN_chg hr.tries hc (fun q hq e => m2 _ hb (e ▸ hq)), fun q hq => ⟨Nat.lt_of_lt_of_le (hr.sep q hq).1 hc.size, (hr.sep q hq).2⟩⟩
  have hj' : (s.jobs.set k { j with n := j.n + 1 })[i]? = some j' := hj'
  rw [List.getElem?_set] at hj'
  by_cases e : k = i
  · subst e
    rw [if_pos rfl, if_pos hkl] at hj'
    injection hj' with hj'
    subst hj'
    exact ⟨bv, av, by rw [List.getElem?_set, if_pos rfl, if_pos (by omega)]; rfl, q2.chg hc ht, q3.chg hc ht⟩
  · rw [if_neg e] at hj'
    obtain ⟨bv', av', r1, r2, r3⟩ := h3 i j' hj'
    exact ⟨bv', av', by rw [List.getElem?_set, if_neg e]; exact r1, r2.chg hc ht, r3.chg hc ht⟩
/-- An answer is written. -/
theorem RI.setAns (hr : RI w h al jv tv T s) {gj c k : Nat} {j : Job} (hv : jv = .slice (some ⟨gj, 0, none⟩) s.jobs.length c) (hk : s.jobs[k]? = some j) (a : Ans) {av' : Value} (hby : ByT w T av' a.body) :
    RI ((((w.setCell ⟨gj, k * 7 + 3, none⟩ (.bool true)).setCell ⟨gj, k * 7 + 4, none⟩ (.int .i64 a.worker)).setCell ⟨gj, k * 7 + 5, none⟩ (.int .i64 a.num)).setCell ⟨gj, k * 7 + 6, none⟩ av') h al jv tv T { s with jobs := s.jobs.set k { j with ans := some a } } := by
  have hc : Chg (fun q => q = gj) w ((((w.setCell ⟨gj, k * 7 + 3, none⟩ (.bool true)).setCell ⟨gj, k * 7 + 4, none⟩ (.int .i64 a.worker)).setCell ⟨gj, k * 7 + 5, none⟩ (.int .i64 a.num)).setCell ⟨gj, k * 7 + 6, none⟩ av') :=
    (((chg_one w gj _ _).setCell (p := ⟨gj, k * 7 + 4, none⟩) (fun _ => rfl) _).setCell (p := ⟨gj, k * 7 + 5, none⟩) (fun _ => rfl) _).setCell (p := ⟨gj, k * 7 + 6, none⟩) (fun _ => rfl) _
  obtain ⟨⟨n1, n2, n3⟩, m1, m2⟩ := hr.ne
  have hb : jv.ownBlock = some gj := by rw [hv]; rfl
  have ht : ∀ q, T q → ¬ q = gj := fun q hq e => (hr.sep q hq).2 (.inr (.inr (.inl (by rw [hb, e]))))
  obtain ⟨css, h1, h2, h3⟩ := hr.jobs
  have hkl := (List.getElem?_eq_some_iff.1 hk).1
  obtain ⟨bv, av, q1, q2, q3⟩ := h3 k j hk
  have hv2 : jv = .slice (some ⟨gj, 0, none⟩) css.length c := by rw [h2]; exact hv
  have hkc : k < css.length := by omega
  have r1 := h1.set_ hv2 q1 (i := 3) (by omega) (.bool true)
  have r2 := r1.set_ (i := 4) (by rw [List.length_set]; exact hv2) (by rw [List.getElem?_set, if_pos rfl, if_pos hkc]) (by omega) (.int .i64 a.worker)
  have r3 := r2.set_ (i := 5) (by rw [List.length_set, List.length_set]; exact hv2) (by rw [List.getElem?_set, if_pos rfl, if_pos (by rw [List.length_set]; exact hkc)]) (by omega) (.int .i64 a.num)
  have r4 := r3.set_ (i := 6) (by rw [List.length_set, List.length_set, List.length_set]; exact hv2) (by rw [List.getElem?_set, if_pos rfl, if_pos (by rw [List.length_set, List.length_set]; exact hkc)]) (by omega) av'
  rw [List.set_set, List.set_set, List.set_set] at r4
  refine ⟨hr.blk.chg hc (fun e => n2 (by rw [hb, e])), ownN_chg hr.alive hc (fun q hq e => (m1 _ hq).1 (by rw [hb, e])), ⟨_, r4, by rw [List.length_set, List.length_set]; exact h2, fun i j' hj' => ?_⟩, ownN_chg hr.tries hc (fun q hq e => m2 _ hb (e ▸ hq)), fun q hq => ⟨Nat.lt_of_lt_of_le (hr.sep q hq).1 hc.size, (hr.sep q hq).2⟩⟩
  have hj' : (s.jobs.set k { j with ans := some a })[i]? = some j' := hj'
  rw [List.getElem?_set] at hj'
  by_cases e : k = i
  · subst e
    rw [if_pos rfl, if_pos hkl] at hj'
    injection hj' with hj'
    subst hj'
    exact ⟨bv, av', by rw [List.getElem?_set, if_pos rfl, if_pos hkc]; rfl, q2.chg hc ht, hby.chg hc ht⟩
  · rw [if_neg e] at hj'
    obtain ⟨bv', av2, r1, r2, r3⟩ := h3 i j' hj'
    exact ⟨bv', av2, by rw [List.getElem?_set, if_neg e]; exact r1, r2.chg hc ht, r3.chg hc ht⟩

/-! ### contracts -/
/-- What a call leaves that changes blocks of the model only. -/
def Ret (w w' : World) (h : Nat) (al jv tv : Value) (T : Nat → Prop) (s' : S) : Prop := RI w' h al jv tv T s' ∧ Chg (ownR h al jv tv) w w'
set_option maxHeartbeats 2000000 in
set_option maxRecDepth 100000 in
theorem rRevive_any (hr : RI w h al jv tv T s) (hal : s.alive.length ≤ 8) (worker : Int) : Calls Try.prog 27 #[.pointer (some ⟨h, 0, none⟩), .int .i64 worker] w fun e w' => e = .returned (.int .i64 (revive s worker).2) ∧ Ret w w' h al jv tv T (revive s worker).1 := by
  obtain ⟨A, c, hv⟩ := hr.shape.1
  obtain ⟨b0, _⟩ := hr.cells
  have hbl := hr.blk.lt
  have HR := Lib.hid hr
  obtain ⟨n, hn⟩ : ∃ n, s.alive.length = n := ⟨_, rfl⟩
  rw [hn] at hv hal
  by_cases h1 : worker < 0 ∨ (n : Int) ≤ worker
  · rw [revive_bad (by rw [hn]; exact h1)]
    subst hv
    clear hr hn
    rcases h1 with h1 | h1
    · go_enter Try.func27, Try.ntmps27
      go_wp2_with fail
      go_ret
      exact ⟨rfl, HR.out, Chg.refl _ _⟩
    · by_cases h2 : worker < 0
      · go_enter Try.func27, Try.ntmps27
        go_wp2_with fail
        go_ret
        exact ⟨rfl, HR.out, Chg.refl _ _⟩
      · go_enter Try.func27, Try.ntmps27
        go_wp2_with fail
        go_ret
        exact ⟨rfl, HR.out, Chg.refl _ _⟩
  · obtain ⟨k, rfl⟩ : ∃ k : Nat, worker = (k : Int) := ⟨worker.toNat, by omega⟩
    have hkn : k < n := by omega
    obtain ⟨b, hb⟩ : ∃ b, s.alive[k]? = some b := ⟨_, List.getElem?_eq_getElem (by omega)⟩
    obtain ⟨ga, c', hv2, ka, kf⟩ := hr.al_at hb
    have hvv := hv2
    rw [hn] at hv2
    rw [hv2] at hv
    injection hv with hv1 hv3 hv4
    subst hv1 hv4
    have hgd : s.alive.getD ((k : Int)).toNat false = b := by rw [Int.toNat_natCast, List.getD_eq_getElem?_getD, hb]; rfl
    have h1' : ¬ ((k : Int) < 0 ∨ (s.alive.length : Int) ≤ (k : Int)) := by rw [hn]; exact h1
    cases b with
    | true =>
      rw [revive_up h1' hgd]
      subst hv2
      clear hr hn hb hgd h1 h1' hvv
      go_enter Try.func27, Try.ntmps27
      go_wp2_with fail
      go_ret
      exact ⟨rfl, HR.out, Chg.refl _ _⟩
    | false =>
      rw [revive_ok h1' hgd]
      have hown : al.ownBlock = some ga := by rw [hv2]; rfl
      have HS := Lib.hid (show Ret w (w.setCell ⟨ga, k, none⟩ (.bool true)) h al jv tv T { s with alive := s.alive.set ((k : Int)).toNat true } from ⟨by rw [Int.toNat_natCast]; exact hr.setAl hvv (by omega) true, (chg_one w ga k _).mono (fun q _ e => .inr (.inl (by rw [e, hown])))⟩)
      subst hv2
      clear hr hn hb hgd h1 h1' hvv hown
      go_enter Try.func27, Try.ntmps27
      go_wp2_with fail
      go_ret
      exact ⟨rfl, HS.out⟩
end
end Go.Proofs.Ytbmplfhcdkeooaa
