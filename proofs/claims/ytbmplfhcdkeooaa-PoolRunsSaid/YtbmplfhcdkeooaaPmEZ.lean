/- For the laws of a pool beside the model. -/
import Derived.Test.YtbmplfhcdkeooaaPmBZ
import Derived.Test.YtbmplfhcdkeooaaScrAZ
import Derived.Test.YtbmplfhcdkeooaaRpDZ
set_option linter.unusedSimpArgs false
set_option linter.unusedVariables false
namespace Go.Proofs.Ytbmplfhcdkeooaa
set_option linter.unusedVariables false
open Go.RowKit Go.Mem Go.Pl

theorem PM.start {w w1 w2 : World} {g m h : Nat} {dv : Value} {V : Int → Loc} {al : Value} {s : S} (h1 : PI w1 g m dv V (fun _ => False) s) (hn1 : New w w1) (ho1 : ∀ k, ownP g m dv V s k → w.heap.size ≤ k)
    (h2 : RI w2 h al (.slice none 0 0) (.slice none 0 0) (fun _ => False) s) (hn2 : New w1 w2) (ho2 : ∀ k, ownR h al (.slice none 0 0) (.slice none 0 0) k → w1.heap.size ≤ k) : ∃ U X, PM U X w g h s s w2 :=
  ⟨_, _, m, dv, V, fun _ => False, al, .slice none 0 0, .slice none 0 0, fun _ => False, ⟨hn1.trans hn2 (fun _ _ h => h), h1.chg hn2 (fun _ _ h => h) (fun _ h => h.elim), h2, ho1, fun k hk => Nat.le_trans hn1.size (ho2 k hk), fun k hk => ⟨fun hr => by have := h1.lt hk; have := ho2 k hr; omega, fun h => h⟩, fun _ _ h => h⟩, rfl, rfl⟩
theorem ScrV.cap {w : World} {lo : Nat} {v : Value} {os : List OpP} {o : OpP} (h : ScrV w lo v os) {j : Nat} (hj : os[j]? = some o) : ∃ ga c A ca, v = .slice (some ⟨ga, 0, none⟩) os.length c ∧ w.cell? ⟨ga, j * 5 + 3, none⟩ = some (.slice A o.body.length ca) ∧ o.body.length ≤ ca ∧ ca ≤ maxLen := by
  obtain ⟨css, h1, h2, h3⟩ := h
  obtain ⟨cs, q1, A, ca, rfl, q2, q4, q5, q3⟩ := h3 j o hj
  have hfl : ∀ (i : Nat) (x : Value), i < 5 → ([.int .i64 o.kind, .int .i64 o.worker, .int .i64 o.n, .slice A o.body.length ca, .int .i64 o.wait] : List Value)[i]? = some x → css.flatten[j * 5 + i]? = some x := fun i x hi hx => flattenN (fun y hy => by
    obtain ⟨q, hq⟩ := List.getElem?_of_mem hy
    have hql := (List.getElem?_eq_some_iff.1 hq).1
    obtain ⟨d', hd'⟩ : ∃ d', os[q]? = some d' := ⟨_, List.getElem?_eq_getElem (by omega)⟩
    obtain ⟨cs', p1, p2⟩ := h3 q d' hd'
    rw [hq] at p1
    injection p1 with p1
    rw [p1]
    exact p2.len) q1 hi hx
  obtain ⟨A0, c, hv, _⟩ := ownN_shape h1
  subst hv
  obtain ⟨ga, rfl, c3, _⟩ := ownN_cell h1 (hfl 3 _ (by omega) rfl)
  exact ⟨ga, c, A, ca, rfl, c3, q4, q5⟩
theorem stepS_tries (s : S) (o : OpP) : (stepS s o).tries.length ≤ s.tries.length + 1 := by
  unfold stepS
  split
  · unfold add; repeat' split
    all_goals simp
  · split
    · unfold Pl.ask; repeat' split
      all_goals simp [giveOut]
    · split
      · unfold Pl.answer; repeat' split
        all_goals simp [setAns]
      · split
        · by_cases hc : check s o.worker (s.tick + o.wait) = 0
          · cases ha : s.alive.getD o.worker.toNat false with
            | true => rw [die_ok hc ha]; simp
            | false => rw [die_dead hc ha]; simp
          · rw [die_bad hc]; simp
        · unfold revive; repeat' split
          all_goals simp
end Go.Proofs.Ytbmplfhcdkeooaa
