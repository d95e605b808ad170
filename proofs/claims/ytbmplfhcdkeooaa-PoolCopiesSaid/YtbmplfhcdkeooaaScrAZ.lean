/- The scripts of refuterref36 in memory. -/
import Derived.Test.YtbmplfhcdkeooaaPureScr
import Derived.Test.YtbmplfhcdkeooaaPlRZ
set_option linter.unusedSimpArgs false
set_option linter.unusedVariables false
namespace Go.Proofs.Ytbmplfhcdkeooaa
set_option linter.unusedVariables false
open Go.RowKit Go.Mem Go.Pl

/-- The cells of an operation; its bytes lie in blocks of T. -/
def OpS (w : World) (T : Nat → Prop) (cs : List Value) (o : OpP) : Prop := ∃ A c, cs = [.int .i64 o.kind, .int .i64 o.worker, .int .i64 o.n, .slice A o.body.length c, .int .i64 o.wait] ∧ Rd w A o.body.length (bs o.body) ∧ o.body.length ≤ c ∧ c ≤ maxLen ∧ ∀ k, Go.Mem.blk A = some k → k < w.heap.size ∧ T k
/-- A row of operations. -/
def ScrV (w : World) (lo : Nat) (v : Value) (os : List OpP) : Prop :=
  ∃ css : List (List Value), w.ownsRow lo 47 5 v os.length css.flatten ∧ css.length = os.length ∧ ∀ (j : Nat) o, os[j]? = some o → ∃ cs, css[j]? = some cs ∧ OpS w (fun k => lo ≤ k ∧ v.ownBlock ≠ some k) cs o
section
variable {w w1 w2 : World} {lo : Nat} {v : Value} {os : List OpP} {o : OpP} {cl : List Value} {T T' : Nat → Prop}
theorem OpS.chg {S : Nat → Prop} (h : OpS w1 T cl o) (hc : Chg S w1 w2) (hs : ∀ k, k < w1.heap.size → T k → ¬ S k) (ht : ∀ k, k < w1.heap.size → T k → T' k) : OpS w2 T' cl o := by
  obtain ⟨A, c, rfl, h2, h3, h4, h5⟩ := h
  exact ⟨A, c, rfl, h2.chg hc (fun k hk _ => hs k (h5 k hk).1 (h5 k hk).2), h3, h4, fun k hk => ⟨Nat.lt_of_lt_of_le (h5 k hk).1 hc.size, ht k (h5 k hk).1 (h5 k hk).2⟩⟩
theorem OpS.len (h : OpS w T cl o) : cl.length = 5 := by
  obtain ⟨A, c, rfl, _⟩ := h
  rfl
theorem ScrV.nil (w : World) (lo : Nat) : ScrV w lo (.slice none 0 0) [] := ⟨[], World.ownsRow_nil w lo _ _, rfl, fun j o h => by simp at h⟩
theorem ScrV.lt (h : ScrV w lo v os) {k : Nat} (hk : v.ownBlock = some k) : lo ≤ k ∧ k < w.heap.size := by
  obtain ⟨css, h1, _⟩ := h
  exact ownN_lt h1 hk
theorem ScrV.shape (h : ScrV w lo v os) : ∃ A c, v = .slice A os.length c ∧ os.length ≤ c ∧ c ≤ maxLen := by
  obtain ⟨css, h1, _⟩ := h
  obtain ⟨A, c, q1, q2, q3, _⟩ := ownN_shape h1
  exact ⟨A, c, q1, q2, q3⟩
theorem ScrV.chg {S : Nat → Prop} (h : ScrV w1 lo v os) (hc : Chg S w1 w2) (hs : ∀ k, k < w1.heap.size → lo ≤ k → ¬ S k) : ScrV w2 lo v os := by
  have h9 := h
  obtain ⟨css, h1, h2, h3⟩ := h
  refine ⟨css, ownN_chg h1 hc (fun k hk => hs k (h9.lt hk).2 (h9.lt hk).1), h2, fun j o ho => ?_⟩
  obtain ⟨cs, q1, q2⟩ := h3 j o ho
  exact ⟨cs, q1, q2.chg hc (fun k hkl hk => hs k hkl hk.1) (fun k _ hk => hk)⟩
theorem ScrV.new (h : ScrV w1 lo v os) (hn : New w1 w2) : ScrV w2 lo v os := h.chg hn (fun _ _ _ h => h)
theorem flattenN {n : Nat} {css : List (List Value)} (hl : ∀ y ∈ css, y.length = n) {j i : Nat} {cs : List Value} {x : Value} (hj : css[j]? = some cs) (hi : i < n) (hx : cs[i]? = some x) : css.flatten[j * n + i]? = some x := by
  induction css generalizing j with
  | nil => simp at hj
  | cons y r ih =>
    have hy := hl y (by simp)
    rw [List.flatten_cons]
    cases j with
    | zero =>
      have e : y = cs := by simpa using hj
      subst e
      rw [List.getElem?_append_left (by omega), Nat.zero_mul, Nat.zero_add]
      exact hx
    | succ j =>
      rw [List.getElem?_append_right (by rw [Nat.succ_mul]; omega), hy, show (j + 1) * n + i - n = j * n + i by rw [Nat.succ_mul]; omega]
      exact ih (fun z hz => hl z (by simp [hz])) (by simpa using hj)
/-- One of them: its cells, its bytes. -/
theorem ScrV.at_ (h : ScrV w lo v os) {j : Nat} (hj : os[j]? = some o) : ∃ ga c A ca, v = .slice (some ⟨ga, 0, none⟩) os.length c ∧ w.cell? ⟨ga, j * 5, none⟩ = some (.int .i64 o.kind) ∧ w.cell? ⟨ga, j * 5 + 1, none⟩ = some (.int .i64 o.worker) ∧ w.cell? ⟨ga, j * 5 + 2, none⟩ = some (.int .i64 o.n) ∧ w.cell? ⟨ga, j * 5 + 3, none⟩ = some (.slice A o.body.length ca) ∧ w.cell? ⟨ga, j * 5 + 4, none⟩ = some (.int .i64 o.wait) ∧
    Rd w A o.body.length (bs o.body) ∧ ∀ k, Go.Mem.blk A = some k → k < w.heap.size ∧ lo ≤ k := by
  obtain ⟨css, h1, h2, h3⟩ := h
  obtain ⟨cs, q1, A, ca, rfl, q2, _, _, q3⟩ := h3 j o hj
  have hfl : ∀ (i : Nat) (x : Value), i < 5 → ([.int .i64 o.kind, .int .i64 o.worker, .int .i64 o.n, .slice A o.body.length ca, .int .i64 o.wait] : List Value)[i]? = some x → css.flatten[j * 5 + i]? = some x := fun i x hi hx => flattenN (fun y hy => by
    obtain ⟨q, hq⟩ := List.getElem?_of_mem hy
    have hql := (List.getElem?_eq_some_iff.1 hq).1
    obtain ⟨d', hd'⟩ : ∃ d', os[q]? = some d' := ⟨_, List.getElem?_eq_getElem (by omega)⟩
    obtain ⟨cs', p1, p2⟩ := h3 q d' hd'
    rw [hq] at p1
    injection p1 with p1
    rw [p1]
    exact p2.len) q1 hi hx
  obtain ⟨A0, c, hv, _⟩ := ownN_shape h1
  subst hv
  obtain ⟨ga, rfl, c0, _⟩ := ownN_cell h1 (hfl 0 _ (by omega) rfl)
  obtain ⟨_, e1, c1, _⟩ := ownN_cell h1 (hfl 1 _ (by omega) rfl)
  obtain ⟨_, e2, c2, _⟩ := ownN_cell h1 (hfl 2 _ (by omega) rfl)
  obtain ⟨_, e3, c3, _⟩ := ownN_cell h1 (hfl 3 _ (by omega) rfl)
  obtain ⟨_, e4, c4, _⟩ := ownN_cell h1 (hfl 4 _ (by omega) rfl)
  injection e1 with e1; injection e1 with e1; subst e1
  injection e2 with e2; injection e2 with e2; subst e2
  injection e3 with e3; injection e3 with e3; subst e3
  injection e4 with e4; injection e4 with e4; subst e4
  exact ⟨ga, c, A, ca, rfl, c0, c1, c2, c3, c4, q2, fun k hk => ⟨(q3 k hk).1, (q3 k hk).2.1⟩⟩
/-- One more operation. -/
theorem ScrV.app (h : ScrV w lo v os) (hlo : lo ≤ w.heap.size) {gb : Nat} (hc : OpS w (fun k => lo ≤ k ∧ v.ownBlock ≠ some k) cl o) (hg : ∀ j u, cl[j]? = some u → w.cell? ⟨gb, j, none⟩ = some u) (hn : os.length ≤ 2000) :
    ∃ v' w', (Builtin.append_ #[43, 43] 43 #[v, .slice (some ⟨gb, 0, none⟩) 1 1]).run Try.prog w = .ok v' w' ∧ ScrV w' lo v' (os ++ [o]) ∧ Chg (fun k => v.ownBlock = some k) w w' := by
  have h9 := h
  obtain ⟨css, h1, h2, h3⟩ := h
  have hl5 := hc.len
  obtain ⟨v', w', hr, ho, hgb, _, hbk⟩ := run_append_own_at (P := Try.prog) w lo 43 43 47 ((Try.prog.info? 47).get!) (((Try.prog.info? 47).get!).zero.get!) 5 56
    Try.underlying43 (by kernel_rfl) (by kernel_rfl) (by kernel_rfl) (by kernel_rfl) (by kernel_rfl) (by decide) v os.length css.flatten h1 ⟨gb, 0, none⟩ 1 1 cl (by rw [hl5])
    (fun j u hu => by rw [Addr.add_lit, Nat.zero_add]; exact hg j u hu) (by obtain ⟨A, c, rfl, _⟩ := hc; simp [Value.oneCell']) (by simp only [maxLen]; omega) (by omega) hlo
  have hch : Chg (fun k => v.ownBlock = some k) w w' := (Chg.refl (fun k => v.ownBlock = some k) w).grown hgb (fun k hk _ => hk)
  have hbk' : ∀ k, v'.ownBlock = some k → v.ownBlock = some k ∨ k = w.heap.size := fun k hk => by
    rcases hbk with e | e
    · exact .inl (e ▸ hk)
    · rw [e] at hk; injection hk with hk; exact .inr hk.symm
  refine ⟨v', w', hr, ⟨css ++ [cl], by simpa using ho, by simp [h2], fun j o2 ho2 => ?_⟩, hch⟩
  by_cases hj : j < os.length
  · rw [List.getElem?_append_left hj] at ho2
    obtain ⟨cs2, q1, q2⟩ := h3 j o2 ho2
    refine ⟨cs2, by rw [List.getElem?_append_left (by omega)]; exact q1, q2.chg hch (fun k _ hk => hk.2) (fun k hkl hk => ⟨hk.1, fun e => ?_⟩)⟩
    rcases hbk' k e with e | e
    · exact hk.2 e
    · omega
  · have e : j = os.length := by
      have := (List.getElem?_eq_some_iff.1 ho2).1
      simp at this
      omega
    subst e
    have e2 : o = o2 := by simpa using ho2
    subst e2
    refine ⟨cl, by rw [← h2]; simp, hc.chg hch (fun k _ hk e => hk.2 e) (fun k hkl hk => ⟨hk.1, fun e => ?_⟩)⟩
    rcases hbk' k e with e | e
    · exact hk.2 e
    · omega
end
end Go.Proofs.Ytbmplfhcdkeooaa
