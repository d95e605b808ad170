/- Objects of a colour in regions: calls that make them, tuples that hold them. No program is named here. -/
import Derived.Test.YtdflpcbkkpgnlaaB0
import Derived.Test.YtdflpcbkkpgnlaaByZ
import Derived.Test.YtdflpcbkkpgnlaaRowVZ
namespace Go.Col
set_option linter.unusedVariables false
open Go.RowKit Go.Mem

/-- A value that owns nothing. -/
def TyO.of (τ : TyC) : TyO := ⟨[], τ.sat, fun h g e _ => τ.stab h g e⟩
theorem any_flat {L : List TyO} {p : Nat → Bool} (h : (L.flatMap TyO.cols).any p = false) {k : Nat} {τ : TyO} (hk : L[k]? = some τ) : τ.cols.any p = false := by
  rw [List.any_eq_false] at h ⊢
  exact fun x hx => h x (List.mem_flatMap.2 ⟨τ, List.mem_of_getElem? hk, hx⟩)
/-- A tuple. -/
def tupO (L : List TyO) : TyO := ⟨L.flatMap TyO.cols, fun v w c => ∃ xs : List Value, v = .tuple xs.toArray ∧ xs.length = L.length ∧ ∀ (k : Nat) (τ : TyO) (x : Value), L[k]? = some τ → xs[k]? = some x → τ.sat x w c,
  fun ⟨xs, h1, h2, h3⟩ g e hn => ⟨xs, h1, h2, fun k τ x hk hx => τ.stab (h3 k τ x hk hx) g e (any_flat hn hk)⟩⟩
theorem tupO_at {L : List TyO} {v : Value} {w : World} {c : Colr} (h : (tupO L).sat v w c) {k : Nat} {τ : TyO} (hk : L[k]? = some τ) : ∃ (vs : Array Value) (x : Value), v = .tuple vs ∧ vs[k]? = some x ∧ τ.sat x w c := by
  obtain ⟨xs, rfl, h2, h3⟩ := h
  have hlt : k < xs.length := by rw [h2]; exact (List.getElem?_eq_some_iff.1 hk).1
  exact ⟨_, xs[k], rfl, by simp [hlt], h3 k τ _ hk (by simp [hlt])⟩
theorem tupO_two {σ τ : TyO} {x y : Value} {w : World} {c : Colr} (h1 : σ.sat x w c) (h2 : τ.sat y w c) : (tupO [σ, τ]).sat (.tuple #[x, y]) w c := ⟨[x, y], rfl, rfl, fun k ρ z hk hz => by
  match k, hk, hz with
  | 0, hk, hz => injection hk with hk; injection hz with hz; subst hk hz; exact h1
  | 1, hk, hz => injection hk with hk; injection hz with hz; subst hk hz; exact h2
  | k + 2, hk, hz => simp at hk⟩
theorem tupO_three {σ τ υ : TyO} {x y z : Value} {w : World} {c : Colr} (h1 : σ.sat x w c) (h2 : τ.sat y w c) (h3 : υ.sat z w c) : (tupO [σ, τ, υ]).sat (.tuple #[x, y, z]) w c := ⟨[x, y, z], rfl, rfl, fun k ρ u hk hu => by
  match k, hk, hu with
  | 0, hk, hu => injection hk with hk; injection hu with hu; subst hk hu; exact h1
  | 1, hk, hu => injection hk with hk; injection hu with hu; subst hk hu; exact h2
  | 2, hk, hu => injection hk with hk; injection hu with hu; subst hk hu; exact h3
  | k + 3, hk, hu => simp at hk⟩

/-- The colours behind a call that changes an object of the colour n: own tells its new blocks. -/
def extO (c : Colr) (m n : Nat) (own : Nat → Bool) : Colr := fun k => if k < m then c k else if own k then n else 0
theorem extO_old {c : Colr} {m n k : Nat} {own : Nat → Bool} (h : k < m) : extO c m n own k = c k := if_pos h
theorem extO_own {c : Colr} {m n k : Nat} {own : Nat → Bool} (h : m ≤ k) (ho : own k = true) : extO c m n own k = n := by
  unfold extO
  rw [if_neg (by omega), if_pos ho]
theorem extO_plain {c : Colr} {m n k : Nat} {own : Nat → Bool} (h : m ≤ k) (ho : own k = false) : extO c m n own k = 0 := by
  unfold extO
  rw [if_neg (by omega), if_neg (by rw [ho]; simp)]
/-- A call that changes blocks of the colour n alone. -/
theorem Ext.of_obj {n : Nat} {S : Nat → Prop} {own : Nat → Bool} {w w' : World} {c : Colr} (g : GI w c) (hn : ([n].contains 0 || [n].contains 1) = false) (h : Chg S w w') (hc : ∀ k, S k → k < w.heap.size → c k = n)
    (hb : ∀ k, (k < w.heap.size ∧ S k) ∨ (w.heap.size ≤ k ∧ own k = true) → ∀ cs t x, w'.heap[k]? = some (.cells cs t x) → ∀ v ∈ cs.toList, NB v = false) : Ext [n] w c w' (extO c w.heap.size n own) := by
  refine ⟨hn, ⟨h.os, h.tape, h.output, h.size, fun k hk hs => h.block k hk (fun hS => hs (by rw [hc k hS hk]; simp))⟩, fun k hk => extO_old hk, fun k h1 h2 => ?_, ?_⟩
  · cases ho : own k with
    | true => rw [extO_own h1 ho]; exact .inr (.inr (by simp))
    | false => rw [extO_plain h1 ho]; exact .inl rfl
  · intro k cs t x hk hck v hv
    by_cases hlt : k < w.heap.size
    · by_cases hS : S k
      · exact hb k (.inl ⟨hlt, hS⟩) cs t x hk v hv
      · rw [h.block k hlt hS] at hk
        rw [extO_old hlt] at hck
        exact g k cs t x hk hck v hv
    · cases ho : own k with
      | true => exact hb k (.inr ⟨by omega, ho⟩) cs t x hk v hv
      | false => rw [extO_plain (by omega) ho] at hck; exact absurd rfl hck
theorem kind_nb {w : World} {t : TypeId} {k : Nat} (h : KindB w t IsU8 k) : ∀ cs t' x, w.heap[k]? = some (.cells cs t' x) → ∀ v ∈ cs.toList, NB v = false := by
  obtain ⟨cs', h1, h2⟩ := h
  intro cs t' x hk v hv
  unfold Blk at h1
  rw [h1] at hk
  injection hk with hk
  injection hk with hk
  subst hk
  obtain ⟨y, rfl⟩ := h2 v (by simpa using hv)
  rfl
theorem blk_nb {w : World} {t : TypeId} {k : Nat} {cs : Array Value} (h : Blk w k t cs) (hcs : ∀ v ∈ cs.toList, NB v = false) : ∀ cs t' x, w.heap[k]? = some (.cells cs t' x) → ∀ v ∈ cs.toList, NB v = false := by
  intro cs' t' x hk v hv
  unfold Blk at h
  rw [h] at hk
  injection hk with hk
  injection hk with hk
  subst hk
  exact hcs v hv
/-- Bytes in a plain block. -/
def byC (l : List UInt8) : TyC := ⟨fun v w c => ∃ A cp, v = .slice A l.length cp ∧ Rd w A l.length (bs l) ∧ l.length ≤ cp ∧ ∀ ad, A = some ad → ad.block < w.heap.size ∧ c ad.block = 0, fun {S v w c w' c'} ⟨A, cp, h1, h2, hcp, h5⟩ g e => ⟨A, cp, h1, rd_ext0 h2 (fun ad h _ => (h5 ad h).2) e, hcp, fun ad h6 => ⟨Nat.lt_of_lt_of_le (h5 ad h6).1 e.chg.size, by rw [e.col _ (h5 ad h6).1, (h5 ad h6).2]⟩⟩⟩
theorem CV.of_newc {P : Program} {w : World} {c : Colr} {f : Nat} {vs : Array Value} {τ : TyC} {R : Value → World → Prop} (h : Calls P f vs w fun e w' => ∃ v, e = .returned v ∧ R v w' ∧ New w w') (hR : ∀ v w', New w w' → R v w' → τ.sat v w' (ext0 c w.heap.size)) : CV P f vs w c τ := fun hg =>
  h.mono fun e w' ⟨v, h1, h2, h3⟩ => ⟨v, _, h1, hR v w' h3 h2, Ext.of_new h3 hg⟩

/-- A chain of operations, each behind the one before. -/
def pathO (dt : List (List Nat)) : Nat → List Nat → Option Nat
  | i, [] => some i
  | i, k :: r => if dep dt k i then pathO dt k r else none
theorem pathO_nyet {dt : List (List Nat)} {b : BB} (h : ∀ j k, b j = true → dep dt j k = true → b k = true) : ∀ (P : List Nat) (i j : Nat), b i = false → pathO dt i P = some j → b j = false
  | [], i, j, hb, hp => by injection hp with hp; rw [← hp]; exact hb
  | k :: r, i, j, hb, hp => by
    unfold pathO at hp
    split at hp
    · rename_i hd
      refine pathO_nyet h r k j ?_ hp
      cases hk : b k with
      | false => rfl
      | true => rw [h k i hk hd] at hb; cases hb
    · cases hp
/-- Facts about slots that are not written yet. -/
def unO (l : List Oper) (dt : List (List Nat)) (i d : Nat) : List RF → List (List Nat) → Bool
  | [], [] => true
  | .own p σ :: r, P :: u => !(p == d) && (match pathO dt i P with | some j => dstOf l j == some p | none => false) && unO l dt i d r u
  | _, _ => false
section
variable {P : Program} {l : List Oper} {dt : List (List Nat)} {Q : Exit → Act → World → Prop} {n : Nat} {a : Act} {m : Nat → Option Value} {D CB : List Nat} {Fs : List RF} {V : Nat → TyC} {w0 : World} {c0 : Colr} {i : Nat}
theorem unO_all {b : BB} {f : FF} {w w' : World} {c c' : Colr} {d : Nat} {v : Value} (hJ : J l.toArray w0 c0 CB Fs V b f w c) (K : Kx dt w0 c0 CB Fs i b f w c) : ∀ (r : List RF) (u : List (List Nat)), unO l dt i d r u = true → All r (bup b i) (upF (some d) v f) w' c'
  | [], [], _ => trivial
  | .own p σ :: r, P :: u, h => by
    simp only [unO, Bool.and_eq_true, Bool.not_eq_true'] at h
    obtain ⟨⟨h1, h2⟩, h3⟩ := h
    cases hp : pathO dt i P with
    | none => rw [hp] at h2; cases h2
    | some j =>
      rw [hp] at h2
      exact ⟨own_nyet h1 (unset_of hJ (pathO_nyet K.has P i j K.self hp) (by simpa using h2)), unO_all hJ K r u h3⟩
  | .own _ _ :: _, [], h => by cases h
  | [], _ :: _, h => by cases h
  | .s _ :: _, _, h => by cases h
  | .st _ _ _ :: _, _, h => by cases h
  | .new _ _ _ _ _ _ :: _, _, h => by cases h
/-- An element of a tuple that holds objects: an object; a plain value. -/
theorem sExO (q p k : Nat) {o : Oper} {L : List TyO} {τ : TyO} (ix j : Nat) (hL : L[ix]? = some τ) (hi : nthL l i = some o := by rfl) (hop : o.op = .extract (.tmp q) ix := by rfl) (hd : o.dst = some p := by rfl) (hA : Fs.filter (aff [] i (some p)) = [.own p τ] := by rfl) (hk : nthR Fs k = .own q (tupO L) := by rfl) (hV : V p = TyC.any := by rfl) (hq : dep dt i j = true ∧ decide (q < n) = true ∧ dstOf l j = some q := by exact ⟨rfl, rfl, rfl⟩) (hg : Gd l n dt V i o.guard := by first | exact trivial | exact ⟨rfl, _, ⟨rfl, rfl⟩, rfl⟩) : OpStep P l dt Q n a m D CB Fs V w0 c0 i := by
  intro b f w c x o' hJ hout hF hE ho K
  obtain rfl : o = o' := Option.some.inj (hi.symm.trans ho)
  obtain ⟨v, ev, hfv⟩ : ∃ v, x.eval (.tmp q) = v ∧ f q = some v := by
    obtain ⟨h1, h2, h3⟩ := hq
    unfold dstOf at h3
    split at h3
    · rename_i oj hoj
      rw [nthL_eq] at hoj
      have h4 := (hJ.set j oj q (by simpa using hoj) h3).1 (K.done j h1)
      cases hf : f q with
      | none => exact absurd hf h4
      | some v => exact ⟨v, hF.in (by rw [hE.1]; exact of_decide_eq_true h2) hf, rfl⟩
    · cases h3
  obtain ⟨vs, u, h1, h2, h3⟩ := tupO_at (All.no K.fac k hk hfv) hL
  exact .pure p (hg.wanted hJ hF hE K) hd (by rw [hA]; exact ⟨own_now h3, trivial⟩) hJ.gi (ex_extract hop (ev.trans h1) h2) (by rw [hV]; trivial)
theorem sExP (q p k : Nat) {o : Oper} {L : List TyO} {τ : TyC} (ix j : Nat) (hL : L[ix]? = some (TyO.of τ)) (hi : nthL l i = some o := by rfl) (hop : o.op = .extract (.tmp q) ix := by rfl) (hd : o.dst = some p := by rfl) (hA : Fs.filter (aff [] i (some p)) = [] := by rfl) (hk : nthR Fs k = .own q (tupO L) := by rfl) (hV : V p = τ := by rfl) (hq : dep dt i j = true ∧ decide (q < n) = true ∧ dstOf l j = some q := by exact ⟨rfl, rfl, rfl⟩) (hg : Gd l n dt V i o.guard := by first | exact trivial | exact ⟨rfl, _, ⟨rfl, rfl⟩, rfl⟩) : OpStep P l dt Q n a m D CB Fs V w0 c0 i := by
  intro b f w c x o' hJ hout hF hE ho K
  obtain rfl : o = o' := Option.some.inj (hi.symm.trans ho)
  obtain ⟨v, ev, hfv⟩ : ∃ v, x.eval (.tmp q) = v ∧ f q = some v := by
    obtain ⟨h1, h2, h3⟩ := hq
    unfold dstOf at h3
    split at h3
    · rename_i oj hoj
      rw [nthL_eq] at hoj
      have h4 := (hJ.set j oj q (by simpa using hoj) h3).1 (K.done j h1)
      cases hf : f q with
      | none => exact absurd hf h4
      | some v => exact ⟨v, hF.in (by rw [hE.1]; exact of_decide_eq_true h2) hf, rfl⟩
    · cases h3
  obtain ⟨vs, u, h1, h2, h3⟩ := tupO_at (All.no K.fac k hk hfv) hL
  exact .pure p (hg.wanted hJ hF hE K) hd (by rw [hA]; trivial) hJ.gi (ex_extract hop (ev.trans h1) h2) (by rw [hV]; exact h3)
/-- A call that makes an object. -/
theorem sO0 (nc d : Nat) (un : List (List Nat)) {o : Oper} {fn : Nat} {tys : Array TypeId} {fd : Func} {σ : TyO} {rest : List RF} (L : ∀ {b : BB} {f : FF} {w : World} {c : Colr}, Kx dt w0 c0 CB Fs i b f w c → CE P fn #[] w c [nc] (fun v w' c' => σ.sat v w' c')) (hfn : P.funcs[fn]? = some fd) (hi : nthL l i = some o := by rfl) (hop : o.op = .call { callee := .value (.func fn), args := #[], argTypes := tys } := by rfl) (hd : o.dst = some d := by rfl) (hA : Fs.filter (aff [nc] i (some d)) = .own d σ :: rest := by rfl) (hun : unO l dt i d rest un = true := by rfl) (hV : V d = TyC.any := by rfl) (hCB : [nc].all (CB.contains ·) = true := by rfl) (hnb : (fd.name == "runtime.NumGoroutine" || fd.body.isNone) = false := by rfl) (hg : Gd l n dt V i o.guard := by first | exact trivial | exact ⟨rfl, _, ⟨rfl, rfl⟩, rfl⟩) : OpStep P l dt Q n a m D CB Fs V w0 c0 i := by
  intro b f w c x o' hJ hout hF hE ho K
  obtain rfl : o = o' := Option.some.inj (hi.symm.trans ho)
  exact .callE d [nc] (hg.wanted hJ hF hE K) hd hCB hJ.gi hop (vs := #[]) (by simp) (enter_of hfn hnb _) (L K) (fun v w' c' h _ => ⟨by rw [hV]; trivial, by rw [hA]; exact ⟨own_now h, unO_all hJ K rest un hun⟩⟩)
/-- A call that makes an object. -/
theorem sO1 (nc d : Nat) (un : List (List Nat)) {o : Oper} {fn : Nat} {tys : Array TypeId} {fd : Func} {σ : TyO} {rest : List RF} (r0 : XA n l dt m D i) (L : ∀ {b : BB} {f : FF} {w : World} {c : Colr} {v0 : Value}, Kx dt w0 c0 CB Fs i b f w c → r0.r.T V w c v0 → CE P fn #[r0.r.W v0] w c [nc] (fun v w' c' => σ.sat v w' c')) (hfn : P.funcs[fn]? = some fd) (hi : nthL l i = some o := by rfl) (hop : o.op = .call { callee := .value (.func fn), args := #[r0.r.opd], argTypes := tys } := by rfl) (hd : o.dst = some d := by rfl) (hA : Fs.filter (aff [nc] i (some d)) = .own d σ :: rest := by rfl) (hun : unO l dt i d rest un = true := by rfl) (hV : V d = TyC.any := by rfl) (hCB : [nc].all (CB.contains ·) = true := by rfl) (hnb : (fd.name == "runtime.NumGoroutine" || fd.body.isNone) = false := by rfl) (hg : Gd l n dt V i o.guard := by first | exact trivial | exact ⟨rfl, _, ⟨rfl, rfl⟩, rfl⟩) : OpStep P l dt Q n a m D CB Fs V w0 c0 i := by
  intro b f w c x o' hJ hout hF hE ho K
  obtain rfl : o = o' := Option.some.inj (hi.symm.trans ho)
  obtain ⟨v0, ev0, sv0⟩ := r0.ev hJ hout hF hE K
  exact .callE d [nc] (hg.wanted hJ hF hE K) hd hCB hJ.gi hop (vs := #[r0.r.W v0]) (by simp [ev0]) (enter_of hfn hnb _) (L K sv0) (fun v w' c' h _ => ⟨by rw [hV]; trivial, by rw [hA]; exact ⟨own_now h, unO_all hJ K rest un hun⟩⟩)
/-- A call that makes an object. -/
theorem sO2 (nc d : Nat) (un : List (List Nat)) {o : Oper} {fn : Nat} {tys : Array TypeId} {fd : Func} {σ : TyO} {rest : List RF} (r0 : XA n l dt m D i) (r1 : XA n l dt m D i) (L : ∀ {b : BB} {f : FF} {w : World} {c : Colr} {v0 v1 : Value}, Kx dt w0 c0 CB Fs i b f w c → r0.r.T V w c v0 → r1.r.T V w c v1 → CE P fn #[r0.r.W v0, r1.r.W v1] w c [nc] (fun v w' c' => σ.sat v w' c')) (hfn : P.funcs[fn]? = some fd) (hi : nthL l i = some o := by rfl) (hop : o.op = .call { callee := .value (.func fn), args := #[r0.r.opd, r1.r.opd], argTypes := tys } := by rfl) (hd : o.dst = some d := by rfl) (hA : Fs.filter (aff [nc] i (some d)) = .own d σ :: rest := by rfl) (hun : unO l dt i d rest un = true := by rfl) (hV : V d = TyC.any := by rfl) (hCB : [nc].all (CB.contains ·) = true := by rfl) (hnb : (fd.name == "runtime.NumGoroutine" || fd.body.isNone) = false := by rfl) (hg : Gd l n dt V i o.guard := by first | exact trivial | exact ⟨rfl, _, ⟨rfl, rfl⟩, rfl⟩) : OpStep P l dt Q n a m D CB Fs V w0 c0 i := by
  intro b f w c x o' hJ hout hF hE ho K
  obtain rfl : o = o' := Option.some.inj (hi.symm.trans ho)
  obtain ⟨v0, ev0, sv0⟩ := r0.ev hJ hout hF hE K
  obtain ⟨v1, ev1, sv1⟩ := r1.ev hJ hout hF hE K
  exact .callE d [nc] (hg.wanted hJ hF hE K) hd hCB hJ.gi hop (vs := #[r0.r.W v0, r1.r.W v1]) (by simp [ev0, ev1]) (enter_of hfn hnb _) (L K sv0 sv1) (fun v w' c' h _ => ⟨by rw [hV]; trivial, by rw [hA]; exact ⟨own_now h, unO_all hJ K rest un hun⟩⟩)
/-- A call that makes an object. -/
theorem sO3 (nc d : Nat) (un : List (List Nat)) {o : Oper} {fn : Nat} {tys : Array TypeId} {fd : Func} {σ : TyO} {rest : List RF} (r0 : XA n l dt m D i) (r1 : XA n l dt m D i) (r2 : XA n l dt m D i) (L : ∀ {b : BB} {f : FF} {w : World} {c : Colr} {v0 v1 v2 : Value}, Kx dt w0 c0 CB Fs i b f w c → r0.r.T V w c v0 → r1.r.T V w c v1 → r2.r.T V w c v2 → CE P fn #[r0.r.W v0, r1.r.W v1, r2.r.W v2] w c [nc] (fun v w' c' => σ.sat v w' c')) (hfn : P.funcs[fn]? = some fd) (hi : nthL l i = some o := by rfl) (hop : o.op = .call { callee := .value (.func fn), args := #[r0.r.opd, r1.r.opd, r2.r.opd], argTypes := tys } := by rfl) (hd : o.dst = some d := by rfl) (hA : Fs.filter (aff [nc] i (some d)) = .own d σ :: rest := by rfl) (hun : unO l dt i d rest un = true := by rfl) (hV : V d = TyC.any := by rfl) (hCB : [nc].all (CB.contains ·) = true := by rfl) (hnb : (fd.name == "runtime.NumGoroutine" || fd.body.isNone) = false := by rfl) (hg : Gd l n dt V i o.guard := by first | exact trivial | exact ⟨rfl, _, ⟨rfl, rfl⟩, rfl⟩) : OpStep P l dt Q n a m D CB Fs V w0 c0 i := by
  intro b f w c x o' hJ hout hF hE ho K
  obtain rfl : o = o' := Option.some.inj (hi.symm.trans ho)
  obtain ⟨v0, ev0, sv0⟩ := r0.ev hJ hout hF hE K
  obtain ⟨v1, ev1, sv1⟩ := r1.ev hJ hout hF hE K
  obtain ⟨v2, ev2, sv2⟩ := r2.ev hJ hout hF hE K
  exact .callE d [nc] (hg.wanted hJ hF hE K) hd hCB hJ.gi hop (vs := #[r0.r.W v0, r1.r.W v1, r2.r.W v2]) (by simp [ev0, ev1, ev2]) (enter_of hfn hnb _) (L K sv0 sv1 sv2) (fun v w' c' h _ => ⟨by rw [hV]; trivial, by rw [hA]; exact ⟨own_now h, unO_all hJ K rest un hun⟩⟩)
/-- A call that makes an object. -/
theorem sO4 (nc d : Nat) (un : List (List Nat)) {o : Oper} {fn : Nat} {tys : Array TypeId} {fd : Func} {σ : TyO} {rest : List RF} (r0 : XA n l dt m D i) (r1 : XA n l dt m D i) (r2 : XA n l dt m D i) (r3 : XA n l dt m D i) (L : ∀ {b : BB} {f : FF} {w : World} {c : Colr} {v0 v1 v2 v3 : Value}, Kx dt w0 c0 CB Fs i b f w c → r0.r.T V w c v0 → r1.r.T V w c v1 → r2.r.T V w c v2 → r3.r.T V w c v3 → CE P fn #[r0.r.W v0, r1.r.W v1, r2.r.W v2, r3.r.W v3] w c [nc] (fun v w' c' => σ.sat v w' c')) (hfn : P.funcs[fn]? = some fd) (hi : nthL l i = some o := by rfl) (hop : o.op = .call { callee := .value (.func fn), args := #[r0.r.opd, r1.r.opd, r2.r.opd, r3.r.opd], argTypes := tys } := by rfl) (hd : o.dst = some d := by rfl) (hA : Fs.filter (aff [nc] i (some d)) = .own d σ :: rest := by rfl) (hun : unO l dt i d rest un = true := by rfl) (hV : V d = TyC.any := by rfl) (hCB : [nc].all (CB.contains ·) = true := by rfl) (hnb : (fd.name == "runtime.NumGoroutine" || fd.body.isNone) = false := by rfl) (hg : Gd l n dt V i o.guard := by first | exact trivial | exact ⟨rfl, _, ⟨rfl, rfl⟩, rfl⟩) : OpStep P l dt Q n a m D CB Fs V w0 c0 i := by
  intro b f w c x o' hJ hout hF hE ho K
  obtain rfl : o = o' := Option.some.inj (hi.symm.trans ho)
  obtain ⟨v0, ev0, sv0⟩ := r0.ev hJ hout hF hE K
  obtain ⟨v1, ev1, sv1⟩ := r1.ev hJ hout hF hE K
  obtain ⟨v2, ev2, sv2⟩ := r2.ev hJ hout hF hE K
  obtain ⟨v3, ev3, sv3⟩ := r3.ev hJ hout hF hE K
  exact .callE d [nc] (hg.wanted hJ hF hE K) hd hCB hJ.gi hop (vs := #[r0.r.W v0, r1.r.W v1, r2.r.W v2, r3.r.W v3]) (by simp [ev0, ev1, ev2, ev3]) (enter_of hfn hnb _) (L K sv0 sv1 sv2 sv3) (fun v w' c' h _ => ⟨by rw [hV]; trivial, by rw [hA]; exact ⟨own_now h, unO_all hJ K rest un hun⟩⟩)
/-- A call that makes an object. -/
theorem sO5 (nc d : Nat) (un : List (List Nat)) {o : Oper} {fn : Nat} {tys : Array TypeId} {fd : Func} {σ : TyO} {rest : List RF} (r0 : XA n l dt m D i) (r1 : XA n l dt m D i) (r2 : XA n l dt m D i) (r3 : XA n l dt m D i) (r4 : XA n l dt m D i) (L : ∀ {b : BB} {f : FF} {w : World} {c : Colr} {v0 v1 v2 v3 v4 : Value}, Kx dt w0 c0 CB Fs i b f w c → r0.r.T V w c v0 → r1.r.T V w c v1 → r2.r.T V w c v2 → r3.r.T V w c v3 → r4.r.T V w c v4 → CE P fn #[r0.r.W v0, r1.r.W v1, r2.r.W v2, r3.r.W v3, r4.r.W v4] w c [nc] (fun v w' c' => σ.sat v w' c')) (hfn : P.funcs[fn]? = some fd) (hi : nthL l i = some o := by rfl) (hop : o.op = .call { callee := .value (.func fn), args := #[r0.r.opd, r1.r.opd, r2.r.opd, r3.r.opd, r4.r.opd], argTypes := tys } := by rfl) (hd : o.dst = some d := by rfl) (hA : Fs.filter (aff [nc] i (some d)) = .own d σ :: rest := by rfl) (hun : unO l dt i d rest un = true := by rfl) (hV : V d = TyC.any := by rfl) (hCB : [nc].all (CB.contains ·) = true := by rfl) (hnb : (fd.name == "runtime.NumGoroutine" || fd.body.isNone) = false := by rfl) (hg : Gd l n dt V i o.guard := by first | exact trivial | exact ⟨rfl, _, ⟨rfl, rfl⟩, rfl⟩) : OpStep P l dt Q n a m D CB Fs V w0 c0 i := by
  intro b f w c x o' hJ hout hF hE ho K
  obtain rfl : o = o' := Option.some.inj (hi.symm.trans ho)
  obtain ⟨v0, ev0, sv0⟩ := r0.ev hJ hout hF hE K
  obtain ⟨v1, ev1, sv1⟩ := r1.ev hJ hout hF hE K
  obtain ⟨v2, ev2, sv2⟩ := r2.ev hJ hout hF hE K
  obtain ⟨v3, ev3, sv3⟩ := r3.ev hJ hout hF hE K
  obtain ⟨v4, ev4, sv4⟩ := r4.ev hJ hout hF hE K
  exact .callE d [nc] (hg.wanted hJ hF hE K) hd hCB hJ.gi hop (vs := #[r0.r.W v0, r1.r.W v1, r2.r.W v2, r3.r.W v3, r4.r.W v4]) (by simp [ev0, ev1, ev2, ev3, ev4]) (enter_of hfn hnb _) (L K sv0 sv1 sv2 sv3 sv4) (fun v w' c' h _ => ⟨by rw [hV]; trivial, by rw [hA]; exact ⟨own_now h, unO_all hJ K rest un hun⟩⟩)
theorem sLenX (d : Nat) {o : Oper} {t e : TypeId} {k : Nat} (r0 : XA n l dt m D i) (ht : P.underlying t = some (.slice e)) (hz : ∀ {b : BB} {f : FF} {w : World} {c : Colr} {v : Value}, Kx dt w0 c0 CB Fs i b f w c → r0.r.T V w c v → ∃ A cp, r0.r.W v = .slice A k cp) (hi : nthL l i = some o := by rfl) (hop : o.op = .call { callee := .builtin .len, args := #[r0.r.opd], argTypes := #[t] } := by rfl) (hd : o.dst = some d := by rfl) (hA : Fs.filter (aff [] i (some d)) = [] := by rfl) (hV : V d = TyC.eq (.int .i64 k) := by rfl) (hg : Gd l n dt V i o.guard := by first | exact trivial | exact ⟨rfl, _, ⟨rfl, rfl⟩, rfl⟩) : OpStep P l dt Q n a m D CB Fs V w0 c0 i := by
  intro b f w c x o' hJ hout hF hE ho K
  obtain rfl : o = o' := Option.some.inj (hi.symm.trans ho)
  obtain ⟨v0, ev0, sv0⟩ := r0.ev hJ hout hF hE K
  obtain ⟨A, cp, hv⟩ := hz K sv0
  exact .pure d (hg.wanted hJ hF hE K) hd (by rw [hA]; trivial) hJ.gi (ex_len hop ht (ev0.trans hv)) (by rw [hV]; rfl)
/-- A literal of plain cells. -/
theorem sLP0 (d : Nat) {o : Oper} {ty e : TypeId} {τ : TyC} (hrun : ∀ w : World, (Instr.buildSlice ty 0 #[]).run P w = .ok (.slice (some ⟨w.heap.size, 0, none⟩) 0 0) (w.alloc (.cells #[] e))) (hτ : ∀ (w : World) (c : Colr), τ.sat (.slice (some ⟨w.heap.size, 0, none⟩) 0 0) (w.alloc (.cells #[] e)) (ext0 c w.heap.size)) (hi : nthL l i = some o := by rfl) (hop : o.op = .buildSlice ty 0 #[] := by rfl) (hd : o.dst = some d := by rfl) (hA : Fs.filter (aff [] i (some d)) = [] := by rfl) (hV : V d = τ := by rfl) (hg : Gd l n dt V i o.guard := by first | exact trivial | exact ⟨rfl, _, ⟨rfl, rfl⟩, rfl⟩) : OpStep P l dt Q n a m D CB Fs V w0 c0 i := by
  intro b f w c x o' hJ hout hF hE ho K
  obtain rfl : o = o' := Option.some.inj (hi.symm.trans ho)
  have he' : (execOp x.eval o).run P w = .ok (.value (.slice (some ⟨w.heap.size, 0, none⟩) 0 0)) (w.alloc (.cells #[] e)) := by
    simp [execOp, hop, hrun, Result.andThen]
  refine .run [] (some d) (hg.wanted hJ hF hE K) hd rfl (wp_val he' ⟨_, _, rfl, Ext.allocP hJ.gi, fun d' e => ?_, ?_⟩)
  · injection e with e
    subst e
    rw [hV]
    exact hτ w c
  · rw [hA]
    trivial
/-- A literal of plain cells. -/
theorem sLP1 (d : Nat) {o : Oper} {ty e : TypeId} {u0 : Value} {τ : TyC} (r0 : XA n l dt m D i) (z0 : ∀ {b : BB} {f : FF} {w : World} {c : Colr} {v : Value}, Kx dt w0 c0 CB Fs i b f w c → r0.r.T V w c v → r0.r.W v = u0) (hrun : ∀ w : World, (Instr.buildSlice ty 1 #[(0, u0)]).run P w = .ok (.slice (some ⟨w.heap.size, 0, none⟩) 1 1) (w.alloc (.cells #[u0] e))) (hτ : ∀ (w : World) (c : Colr), τ.sat (.slice (some ⟨w.heap.size, 0, none⟩) 1 1) (w.alloc (.cells #[u0] e)) (ext0 c w.heap.size)) (hi : nthL l i = some o := by rfl) (hop : o.op = .buildSlice ty 1 #[(0, r0.r.opd)] := by rfl) (hd : o.dst = some d := by rfl) (hA : Fs.filter (aff [] i (some d)) = [] := by rfl) (hV : V d = τ := by rfl) (hg : Gd l n dt V i o.guard := by first | exact trivial | exact ⟨rfl, _, ⟨rfl, rfl⟩, rfl⟩) : OpStep P l dt Q n a m D CB Fs V w0 c0 i := by
  intro b f w c x o' hJ hout hF hE ho K
  obtain rfl : o = o' := Option.some.inj (hi.symm.trans ho)
  obtain ⟨v0, ev0, sv0⟩ := r0.ev hJ hout hF hE K
  have ez0 := ev0.trans (z0 K sv0)
  have he' : (execOp x.eval o).run P w = .ok (.value (.slice (some ⟨w.heap.size, 0, none⟩) 1 1)) (w.alloc (.cells #[u0] e)) := by
    simp [execOp, hop, ez0, hrun, Result.andThen]
  refine .run [] (some d) (hg.wanted hJ hF hE K) hd rfl (wp_val he' ⟨_, _, rfl, Ext.allocP hJ.gi, fun d' e => ?_, ?_⟩)
  · injection e with e
    subst e
    rw [hV]
    exact hτ w c
  · rw [hA]
    trivial
/-- A literal of plain cells. -/
theorem sLP2 (d : Nat) {o : Oper} {ty e : TypeId} {u0 : Value} {u1 : Value} {τ : TyC} (r0 : XA n l dt m D i) (r1 : XA n l dt m D i) (z0 : ∀ {b : BB} {f : FF} {w : World} {c : Colr} {v : Value}, Kx dt w0 c0 CB Fs i b f w c → r0.r.T V w c v → r0.r.W v = u0) (z1 : ∀ {b : BB} {f : FF} {w : World} {c : Colr} {v : Value}, Kx dt w0 c0 CB Fs i b f w c → r1.r.T V w c v → r1.r.W v = u1) (hrun : ∀ w : World, (Instr.buildSlice ty 2 #[(0, u0), (1, u1)]).run P w = .ok (.slice (some ⟨w.heap.size, 0, none⟩) 2 2) (w.alloc (.cells #[u0, u1] e))) (hτ : ∀ (w : World) (c : Colr), τ.sat (.slice (some ⟨w.heap.size, 0, none⟩) 2 2) (w.alloc (.cells #[u0, u1] e)) (ext0 c w.heap.size)) (hi : nthL l i = some o := by rfl) (hop : o.op = .buildSlice ty 2 #[(0, r0.r.opd), (1, r1.r.opd)] := by rfl) (hd : o.dst = some d := by rfl) (hA : Fs.filter (aff [] i (some d)) = [] := by rfl) (hV : V d = τ := by rfl) (hg : Gd l n dt V i o.guard := by first | exact trivial | exact ⟨rfl, _, ⟨rfl, rfl⟩, rfl⟩) : OpStep P l dt Q n a m D CB Fs V w0 c0 i := by
  intro b f w c x o' hJ hout hF hE ho K
  obtain rfl : o = o' := Option.some.inj (hi.symm.trans ho)
  obtain ⟨v0, ev0, sv0⟩ := r0.ev hJ hout hF hE K
  have ez0 := ev0.trans (z0 K sv0)
  obtain ⟨v1, ev1, sv1⟩ := r1.ev hJ hout hF hE K
  have ez1 := ev1.trans (z1 K sv1)
  have he' : (execOp x.eval o).run P w = .ok (.value (.slice (some ⟨w.heap.size, 0, none⟩) 2 2)) (w.alloc (.cells #[u0, u1] e)) := by
    simp [execOp, hop, ez0, ez1, hrun, Result.andThen]
  refine .run [] (some d) (hg.wanted hJ hF hE K) hd rfl (wp_val he' ⟨_, _, rfl, Ext.allocP hJ.gi, fun d' e => ?_, ?_⟩)
  · injection e with e
    subst e
    rw [hV]
    exact hτ w c
  · rw [hA]
    trivial
/-- A literal of plain cells. -/
theorem sLP3 (d : Nat) {o : Oper} {ty e : TypeId} {u0 : Value} {u1 : Value} {u2 : Value} {τ : TyC} (r0 : XA n l dt m D i) (r1 : XA n l dt m D i) (r2 : XA n l dt m D i) (z0 : ∀ {b : BB} {f : FF} {w : World} {c : Colr} {v : Value}, Kx dt w0 c0 CB Fs i b f w c → r0.r.T V w c v → r0.r.W v = u0) (z1 : ∀ {b : BB} {f : FF} {w : World} {c : Colr} {v : Value}, Kx dt w0 c0 CB Fs i b f w c → r1.r.T V w c v → r1.r.W v = u1) (z2 : ∀ {b : BB} {f : FF} {w : World} {c : Colr} {v : Value}, Kx dt w0 c0 CB Fs i b f w c → r2.r.T V w c v → r2.r.W v = u2) (hrun : ∀ w : World, (Instr.buildSlice ty 3 #[(0, u0), (1, u1), (2, u2)]).run P w = .ok (.slice (some ⟨w.heap.size, 0, none⟩) 3 3) (w.alloc (.cells #[u0, u1, u2] e))) (hτ : ∀ (w : World) (c : Colr), τ.sat (.slice (some ⟨w.heap.size, 0, none⟩) 3 3) (w.alloc (.cells #[u0, u1, u2] e)) (ext0 c w.heap.size)) (hi : nthL l i = some o := by rfl) (hop : o.op = .buildSlice ty 3 #[(0, r0.r.opd), (1, r1.r.opd), (2, r2.r.opd)] := by rfl) (hd : o.dst = some d := by rfl) (hA : Fs.filter (aff [] i (some d)) = [] := by rfl) (hV : V d = τ := by rfl) (hg : Gd l n dt V i o.guard := by first | exact trivial | exact ⟨rfl, _, ⟨rfl, rfl⟩, rfl⟩) : OpStep P l dt Q n a m D CB Fs V w0 c0 i := by
  intro b f w c x o' hJ hout hF hE ho K
  obtain rfl : o = o' := Option.some.inj (hi.symm.trans ho)
  obtain ⟨v0, ev0, sv0⟩ := r0.ev hJ hout hF hE K
  have ez0 := ev0.trans (z0 K sv0)
  obtain ⟨v1, ev1, sv1⟩ := r1.ev hJ hout hF hE K
  have ez1 := ev1.trans (z1 K sv1)
  obtain ⟨v2, ev2, sv2⟩ := r2.ev hJ hout hF hE K
  have ez2 := ev2.trans (z2 K sv2)
  have he' : (execOp x.eval o).run P w = .ok (.value (.slice (some ⟨w.heap.size, 0, none⟩) 3 3)) (w.alloc (.cells #[u0, u1, u2] e)) := by
    simp [execOp, hop, ez0, ez1, ez2, hrun, Result.andThen]
  refine .run [] (some d) (hg.wanted hJ hF hE K) hd rfl (wp_val he' ⟨_, _, rfl, Ext.allocP hJ.gi, fun d' e => ?_, ?_⟩)
  · injection e with e
    subst e
    rw [hV]
    exact hτ w c
  · rw [hA]
    trivial
end
theorem byC_lit {w : World} {c : Colr} (l : List UInt8) {e : TypeId} : (byC l).sat (.slice (some ⟨w.heap.size, 0, none⟩) l.length l.length) (w.alloc (.cells (bs l).toArray e)) (ext0 c w.heap.size) := by
  refine ⟨_, _, rfl, ⟨by simp, fun _ => ⟨_, rfl, fun j u hu => ?_⟩⟩, Nat.le_refl _, fun ad hA => ?_⟩
  · rw [Addr.add_lit, Nat.zero_add]
    exact (Blk.new w e _).cell j (by simpa using hu)
  · injection hA with hA
    subst hA
    exact ⟨by simp, by simp [ext0]⟩
theorem byC_len {l : List UInt8} {k : Nat} {v : Value} {w : World} {c : Colr} (h : (byC l).sat v w c) (e : l.length = k) : ∃ A cp, v = .slice A k cp := by
  subst e
  obtain ⟨A, cp, rfl, _⟩ := h
  exact ⟨A, cp, rfl⟩
theorem run_eqpn {P : Program} {w : World} {t te : TypeId} (hp : P.underlying t = some (.pointer te)) : (binOp .eql t (.pointer none) (.pointer none)).run P w = .ok (.bool true) w := by
  have h : ∀ d : Nat, (Op.equalIn (d + 1) t (.pointer none) (.pointer none)).run P w = .ok true w := fun d => by
    simp [Op.equalIn, run_underlying hp]
  simp only [binOp]
  simp [Op.equal, Op.maxDepth, h 9999]
theorem eqg_ptr {P : Program} {w : World} (op : BinOp) (t : TypeId) (x y : Operand) (i j : Option Addr) : (eqGuard op t x y (.pointer i) (.pointer j)).run P w = .ok () w := by
  unfold eqGuard
  split <;> simp [go_sem]
theorem run_eqp {P : Program} {w : World} {t te : TypeId} (hp : P.underlying t = some (.pointer te)) (g : Nat) : (binOp .eql t (.pointer (some ⟨g, 0, none⟩)) (.pointer none)).run P w = .ok (.bool false) w := by
  have h : ∀ d : Nat, (Op.equalIn (d + 1) t (.pointer (some ⟨g, 0, none⟩)) (.pointer none)).run P w = .ok false w := fun d => by
    simp [Op.equalIn, run_underlying hp]
  simp only [binOp]
  simp [Op.equal, Op.maxDepth, h 9999]
theorem run_eqK {P : Program} {w : World} (t : TypeId) (k : IntKind) {x y : Int} (h : x = y) : (binOp .eql t (.int k x) (.int k y)).run P w = .ok (.bool true) w := by
  subst h
  simp [binOp, go_sem]
theorem own_cast' {τ σ : TyO} {v : Value} {w : World} {c : Colr} (e : τ = σ) (h : τ.sat v w c) : σ.sat v w c := e ▸ h
end Go.Col
