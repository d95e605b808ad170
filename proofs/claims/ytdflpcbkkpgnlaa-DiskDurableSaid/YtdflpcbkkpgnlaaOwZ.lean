/- Owned values in regions: append, moves; what is known behind the region. No program is named here. -/
import Derived.Test.YtdflpcbkkpgnlaaB0
import Derived.Test.YtdflpcbkkpgnlaaStZ
import Derived.Test.YtdflpcbkkpgnlaaOwnZ
namespace Go.Col
set_option linter.unusedVariables false
open Go.RowKit Go.Mem

/-- A slice of structs that owns its row. -/
def ownS (n sz : Nat) (t : TypeId) (L : List TyC) : TyO := ⟨[n], fun v w c => ∃ xs, OwnRow n sz t v L.length xs w c ∧ (catK sz L).sat xs.toArray w c, fun ⟨xs, h1, h2⟩ g e hn => ⟨xs, h1.ext e (by simpa using hn), (catK sz L).stab h2 g e⟩⟩
theorem ownS_nil {n sz : Nat} {t : TypeId} {w : World} {c : Colr} : (ownS n sz t []).sat (.slice none 0 0) w c := ⟨[], OwnRow.nil, fun k τ hk => by simp at hk⟩
theorem ownS_open {n sz : Nat} {t : TypeId} {L : List TyC} {v : Value} {w : World} {c : Colr} (h : (ownS n sz t L).sat v w c) {m : Nat} (hm : L.length = m) (hl : 0 < m) : ∃ g cp, v = .slice (some ⟨g, 0, none⟩) m cp := by
  obtain ⟨xs, h1, _⟩ := h
  subst hm
  exact h1.open hl
/-- The cells of an element. -/
theorem ownS_cells {n sz : Nat} {t : TypeId} {L : List TyC} {g cp m : Nat} {w : World} {c : Colr} (h : (ownS n sz t L).sat (.slice (some ⟨g, 0, none⟩) m cp) w c) (hm : L.length = m) {k : Nat} {τ : TyC} (hk : L[k]? = some τ) : ∃ u : Array Value, u.size = sz ∧ τ.sat (.agg u) w c ∧ ∀ j x, u[j]? = some x → w.cell? ⟨g, k * sz + j, none⟩ = some x := by
  obtain ⟨xs, h1, h2⟩ := h
  obtain ⟨u, q1, q2, q3⟩ := h2 k τ hk
  subst hm
  exact ⟨u, q1, q2, fun j x hx => h1.cell rfl (by have := q3 j x hx; simpa using this)⟩
theorem ownS_load {P : Program} {ty : TypeId} {n sz : Nat} {t : TypeId} {L : List TyC} {g cp m : Nat} {w : World} {c : Colr} (hA : Agg P ty sz) (h : (ownS n sz t L).sat (.slice (some ⟨g, 0, none⟩) m cp) w c) (hm : L.length = m) {k : Nat} {τ : TyC} (hk : L[k]? = some τ) : ∃ u, (loadVar ty ⟨g, k * sz, none⟩).run P w = .ok u w ∧ τ.sat u w c := by
  obtain ⟨u, q1, q2, q3⟩ := ownS_cells h hm hk
  refine ⟨_, load_cells hA u.toList (by simpa using q1) (fun j x hx => ?_), q2⟩
  rw [Addr.add_lit]
  exact q3 j x (by simpa using hx)
theorem own_now {d : Nat} {τ : TyO} {b : BB} {f : FF} {u : Value} {w : World} {c : Colr} (h : τ.sat u w c) : (RF.own d τ).P b (upF (some d) u f) w c := fun v hv => by
  rw [up_at] at hv
  injection hv with hv
  exact hv ▸ h
theorem own_nyet {d p : Nat} {τ : TyO} {b : BB} {f : FF} {u : Value} {w : World} {c : Colr} (hp : (p == d) = false) (h : f p = none) : (RF.own p τ).P b (upF (some d) u f) w c := fun v hv => by
  have : upF (some d) u f p = f p := by
    have : ¬ p = d := by simpa using hp
    have h2 : ¬ d = p := fun e => this e.symm
    unfold upF
    split
    · rename_i h3
      injection h3 with h3
      exact absurd h3 h2
    · rfl
  rw [this, h] at hv
  cases hv
theorem All.co {v : Value} {τ : TyO} {L : List RF} {b : BB} {f : FF} {w : World} {c : Colr} (h : τ.sat v w c) (hL : All L b f w c) : All (.s (Fact.own τ v) :: L) b f w c := ⟨h, hL⟩
theorem All.own {L : List RF} {b : BB} {f : FF} {w : World} {c : Colr} {τ : TyO} {v : Value} (h : All L b f w c) (k : Nat) (hk : nthR L k = .s (Fact.own τ v)) : τ.sat v w c := by
  have := All.nth k h
  rw [hk] at this
  exact this
theorem All.so0 {L : List RF} {b : BB} {f : FF} {w : World} {c : Colr} {i : Nat} {τ : TyO} {v : Value} {F1 : Fact} (h : All L b f w c) (k : Nat) (hk : nthR L k = .st i F1 (.s (Fact.own τ v))) (hb : b i = false) : τ.sat v w c := by
  have := All.nth k h
  rw [hk] at this
  exact this.2 hb
theorem All.no {L : List RF} {b : BB} {f : FF} {w : World} {c : Colr} {τ : TyO} {p : Nat} {v : Value} (h : All L b f w c) (k : Nat) (hk : nthR L k = .own p τ) (hf : f p = some v) : τ.sat v w c := by
  have := All.nth k h
  rw [hk] at this
  exact this v hf
theorem All.cown {L : List RF} {w : World} {c : Colr} (p : Nat) (τ : TyO) (h : All L b0 f0 w c) : All (.own p τ :: L) b0 f0 w c := ⟨RF.own_none, h⟩
section
variable {P : Program} {l : List Oper} {dt : List (List Nat)} {Q : Exit → Act → World → Prop} {n : Nat} {a : Act} {m : Nat → Option Value} {D CB : List Nat} {Fs : List RF} {V : Nat → TyC} {w0 : World} {c0 : Colr} {i : Nat}
theorem unset_of {b : BB} {f : FF} {w : World} {c : Colr} (hJ : J l.toArray w0 c0 CB Fs V b f w c) {j p : Nat} (hb : b j = false) (hp : dstOf l j = some p) : f p = none := by
  unfold dstOf at hp
  cases ho : nthL l j with
  | none => rw [ho] at hp; cases hp
  | some oj =>
    rw [ho] at hp
    rw [nthL_eq] at ho
    have := hJ.set j oj p (by simpa using ho) hp
    cases hf : f p with
    | none => rfl
    | some v =>
      have := this.2 (by rw [hf]; simp)
      rw [hb] at this
      cases this
/-- One element more, in place or anew; the old slice is gone; the slot p is written later. -/
theorem sApO (nc d p j : Nat) {o : Oper} {sz : Nat} {t e : TypeId} {inf : TypeInfo} {z : Value} {L : List TyC} {τ : TyC} {σ : TyO} {F0 : RF} (r0 r1 : XA n l dt m D i) (ht : P.underlying t = some (.slice e)) (hi2 : P.info? e = some inf) (hz : inf.zero = some z) (hsz : inf.size = sz) (hzc : z.cells.size = sz) (hzn : z.cells.toList.all (fun v => !NB v) = true) (hs : τ.str sz)
    (H0 : ∀ {b : BB} {f : FF} {w : World} {c : Colr} {v : Value}, Kx dt w0 c0 CB Fs i b f w c → r0.r.T V w c v → (ownS nc sz e L).sat (r0.r.W v) w c) (H1 : ∀ {b : BB} {f : FF} {w : World} {c : Colr} {v : Value}, Kx dt w0 c0 CB Fs i b f w c → r1.r.T V w c v → (litC sz e [τ]).sat (r1.r.W v) w c) (hL : L.length ≤ 1000000) (hfit : inf.bytes ≤ 100000)
    (hi : nthL l i = some o := by rfl) (hop : o.op = .call { callee := .builtin .append, args := #[r0.r.opd, r1.r.opd], argTypes := #[t, t] } := by rfl) (hd : o.dst = some d := by rfl) (hA : Fs.filter (aff [nc] i (some d)) = [.own d (ownS nc sz e (L ++ [τ])), .own p σ, .st i Fact.tru F0] := by rfl) (hj : dep dt j i = true ∧ dstOf l j = some p := by exact ⟨rfl, rfl⟩) (hpd : (p == d) = false := by rfl)
    (hCB : [nc].all (CB.contains ·) = true := by rfl) (hn : ([nc].contains 0 || [nc].contains 1) = false := by rfl) (hV : V d = TyC.any := by rfl) (hg : Gd l n dt V i o.guard := by first | exact trivial | exact ⟨rfl, _, ⟨rfl, rfl⟩, rfl⟩) : OpStep P l dt Q n a m D CB Fs V w0 c0 i := by
  intro b f w c x o' hJ hout hF hE ho K
  obtain rfl : o = o' := Option.some.inj (hi.symm.trans ho)
  obtain ⟨v0, ev0, sv0⟩ := r0.ev hJ hout hF hE K
  obtain ⟨v1, ev1, sv1⟩ := r1.ev hJ hout hF hE K
  obtain ⟨xs, h1, h2⟩ := H0 K sv0
  obtain ⟨g', ds, hlit, k2, k3, k4, k5⟩ := H1 K sv1
  obtain ⟨u, p1, p2, p3⟩ := k5 0 τ rfl
  obtain ⟨cs, hcs, q1, q2, q3⟩ := hs _ _ _ p2
  injection hcs with hcs
  subst hcs
  have hds : ds.size = sz := by simpa using k4
  have hdu : ds = u := by
    apply Array.ext (by rw [hds, p1])
    intro k hk1 hk2
    have := p3 k u[k] (Array.getElem?_eq_getElem hk2)
    rw [Nat.zero_mul, Nat.zero_add, Array.getElem?_eq_getElem hk1] at this
    injection this
  subst hdu
  have hlen : (L ++ [τ]).length = L.length + 1 := by simp
  obtain ⟨v2, w2, c2, r1', r2', r3'⟩ := app_run (P := P) (t := t) (ty := o.type) (m := 1) (cp' := 1) (news := ds.toList) (ad := ⟨g', 0, none⟩) h1 hJ.gi hn ht hi2 hz hsz hzc hzn (by simpa using hds) (fun j u hu => by rw [Addr.add_lit, Nat.zero_add]; exact k3.cell j (by simpa using hu)) (fun u hu => by have := Array.all_eq_true_iff_forall_mem.1 q2 u (by simpa using hu); exact this) q3 (by omega) (by omega) (by
    have : (L.length + 1) * inf.bytes ≤ 1000001 * 100000 := Nat.mul_le_mul (by omega) hfit
    omega)
  have hnew : (ownS nc sz e (L ++ [τ])).sat v2 w2 c2 := by
    refine ⟨_, by rw [hlen]; exact r3', ?_⟩
    have h2' := (catK sz L).stab h2 hJ.gi r2'
    have h3' : (catK sz [τ]).sat ds w2 c2 := (catK sz [τ]).stab k5 hJ.gi r2'
    have := cat_app (zs := #[]) h2' (by simpa using h1.1) h3' hds
    rw [Array.append_empty] at this
    have e : (xs ++ ds.toList).toArray = xs.toArray ++ ds := by simp
    rw [e]
    exact this
  have he : (execOp x.eval o).run P w = .ok (.value v2) w2 := by
    simp [execOp, hop, resolve, invoke, builtin, ev0, ev1, hlit, r1', Result.andThen]
  refine .run [nc] (some d) (hg.wanted hJ hF hE K) hd hCB (wp_val he ⟨_, c2, rfl, r2', fun d' _ => ?_, ?_⟩)
  · injection ‹some d = some d'› with hdd
    subst hdd
    rw [hV]
    trivial
  · rw [hA]
    exact ⟨own_now hnew, own_nyet hpd (unset_of hJ (K.nyet j hj.1) hj.2), ⟨fun _ => trivial, fun hb => by simp [bup] at hb⟩, trivial⟩
/-- A move of an owned value. -/
theorem sMvO (q p k : Nat) {o : Oper} {τ : TyO} (j : Nat) (hi : nthL l i = some o := by rfl) (hop : o.op = .move (.tmp q) ∨ o.op = .assign (.tmp q) := by first | exact .inl rfl | exact .inr rfl) (hd : o.dst = some p := by rfl) (hA : Fs.filter (aff [] i (some p)) = [.own p τ] := by rfl) (hk : nthR Fs k = .own q τ := by rfl) (hV : V p = TyC.any := by rfl) (hq : dep dt i j = true ∧ decide (q < n) = true ∧ dstOf l j = some q := by exact ⟨rfl, rfl, rfl⟩) (hg : Gd l n dt V i o.guard := by first | exact trivial | exact ⟨rfl, _, ⟨rfl, rfl⟩, rfl⟩) : OpStep P l dt Q n a m D CB Fs V w0 c0 i := by
  intro b f w c x o' hJ hout hF hE ho K
  obtain rfl : o = o' := Option.some.inj (hi.symm.trans ho)
  obtain ⟨v, ev, hfv⟩ : ∃ v, x.eval (.tmp q) = v ∧ f q = some v := by
    obtain ⟨h1, h2, h3⟩ := hq
    unfold dstOf at h3
    split at h3
    · rename_i oj hoj
      rw [nthL_eq] at hoj
      have h4 := (hJ.set j oj q (by simpa using hoj) h3).1 (K.done j h1)
      cases hf : f q with
      | none => exact absurd hf h4
      | some v => exact ⟨v, hF.in (by rw [hE.1]; exact of_decide_eq_true h2) hf, rfl⟩
    · cases h3
  exact .pure p (hg.wanted hJ hF hE K) hd (by rw [hA]; exact ⟨own_now (All.no K.fac k hk hfv), trivial⟩) hJ.gi (ex_move hop ev) (by rw [hV]; trivial)
/-- The address of an element of a known slice. -/
theorem sIxv (d : Nat) {o : Oper} {ty : TypeId} {u z z' : Value} (r0 : XA n l dt m D i) (r1 : XA n l dt m D i) (hz : ∀ {w : World} {c : Colr} {v v' : Value}, r0.r.T V w c v → r1.r.T V w c v' → r0.r.W v = z ∧ r1.r.W v' = z') (L : ∀ {w : World}, (Instr.indexAt ty z z').run P w = .ok u w) (hV : V d = TyC.eq u := by rfl) (hi : nthL l i = some o := by rfl) (hop : o.op = .indexAddr ty r0.r.opd r1.r.opd := by rfl) (hd : o.dst = some d := by rfl) (hA : Fs.filter (aff [] i (some d)) = [] := by rfl) (hg : Gd l n dt V i o.guard := by first | exact trivial | exact ⟨rfl, _, ⟨rfl, rfl⟩, rfl⟩) : OpStep P l dt Q n a m D CB Fs V w0 c0 i := by
  intro b f w c x o' hJ hout hF hE ho K
  obtain rfl : o = o' := Option.some.inj (hi.symm.trans ho)
  obtain ⟨v0, ev0, sv0⟩ := r0.ev hJ hout hF hE K
  obtain ⟨v1, ev1, sv1⟩ := r1.ev hJ hout hF hE K
  exact .pure d (hg.wanted hJ hF hE K) hd (by rw [hA]; trivial) hJ.gi (ex_index hop (ev0.trans (hz sv0 sv1).1) (ev1.trans (hz sv0 sv1).2) L) (by rw [hV]; rfl)
theorem own_cast {n sz : Nat} {t : TypeId} {L L' : List TyC} {v : Value} {w : World} {c : Colr} (e : L = L') (h : (ownS n sz t L).sat v w c) : (ownS n sz t L').sat v w c := e ▸ h
end
theorem map_take_succ {α : Type} {d : α} {f : α → TyC} {xs : List α} {k : Nat} (h : k < xs.length) : (xs.take k).map f ++ [f (xs.getD k d)] = (xs.take (k + 1)).map f := by
  rw [List.take_succ_eq_append_getElem h, List.map_append]
  simp [List.getD, List.getElem?_eq_getElem h]
theorem map_take_at {α : Type} {d : α} {f : α → TyC} {xs : List α} {k m : Nat} (h : k < m) (hm : m ≤ xs.length) : ((xs.take m).map f)[k]? = some (f (xs.getD k d)) := by
  rw [List.getElem?_map, List.getElem?_take_of_lt h, List.getElem?_eq_getElem (by omega)]
  simp [List.getD, List.getElem?_eq_getElem (show k < xs.length by omega)]
theorem run_neqb {P : Program} {w : World} {t : TypeId} (ht : P.underlying t = some .bool) (a b : Bool) : (binOp .neq t (.bool a) (.bool b)).run P w = .ok (.bool (!(a == b))) w := by
  obtain ⟨k, hk⟩ : ∃ k, Op.maxDepth = k + 1 := ⟨_, rfl⟩
  have h : (Op.equalIn Op.maxDepth t (.bool a) (.bool b)).run P w = .ok (a == b) w := by
    rw [hk]
    simp [Op.equalIn, run_underlying ht]
  simp [binOp, Op.equal, h, go_sem]
end Go.Col
