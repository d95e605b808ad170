/- Regions by terms: each operation is one short term. No program is named here. -/
import Derived.Test.YtdflpcbkkpgnlaaB0
import Derived.Test.YtdflpcbkkpgnlaaSeqZ
namespace Go.Mem
set_option linter.unusedVariables false
open Go.RowKit
section
variable {P : Program} {o : Oper} {a : Act} {w w' : World} {v : Value}
theorem ex_index' {t : TypeId} {x y : Operand} {p i : Value} (h : o.op = .index t x y) (hx : a.eval x = p) (hy : a.eval y = i) (hr : (Instr.index t p i).run P w = .ok v w) : (execOp a.eval o).run P w = .ok (.value v) w := by
  simp [execOp, h, hx, hy, hr, Result.andThen]
theorem ex_slice_to {t : TypeId} {x y : Operand} {p i : Value} (h : o.op = .slice t x none (some y) none) (hx : a.eval x = p) (hy : a.eval y = i) (hr : (Instr.slice t p none (some i) none).run P w = .ok v w) (ht : P.underlying t = some .string) : (execOp a.eval o).run P w = .ok (.value v) w := by
  simp [execOp, h, hx, hy, hr, Instr.sliceAt, run_underlying ht, Result.andThen]
theorem ex_slice_from {t : TypeId} {x y : Operand} {p i : Value} (h : o.op = .slice t x (some y) none none) (hx : a.eval x = p) (hy : a.eval y = i) (hr : (Instr.slice t p (some i) none none).run P w = .ok v w) (ht : P.underlying t = some .string) : (execOp a.eval o).run P w = .ok (.value v) w := by
  simp [execOp, h, hx, hy, hr, Instr.sliceAt, run_underlying ht, Result.andThen]
theorem ex_len_s {x : Operand} {t : TypeId} {s : ByteArray} (h : o.op = .call { callee := .builtin .len, args := #[x], argTypes := #[t] }) (ht : P.underlying t = some .string) (hx : a.eval x = .string s) : (execOp a.eval o).run P w = .ok (.value (.int .i64 s.size)) w := by
  simp [execOp, h, resolve, invoke, builtin, hx, Builtin.len_, run_underlying ht, goInt, Result.andThen]
end
end Go.Mem
namespace Go.Col
set_option linter.unusedVariables false
open Go.RowKit Go.Mem

/-- What a frame holds. -/
def Ev (n : Nat) (a : Act) (m : Nat → Option Value) : Prop := a.tmps.size = n ∧ a.defers = [] ∧ ∀ t v, m t = some v → t < n ∧ a.eval (.tmp t) = v
theorem Ev.at {n : Nat} {a : Act} {m : Nat → Option Value} (h : Ev n a m) (t : Nat) {v : Value} (ht : m t = some v) : a.eval (.tmp t) = v := (h.2.2 t v ht).2
def dep (dt : List (List Nat)) (i j : Nat) : Bool := (dt.getD i []).contains j
def chkT (l : List Oper) (dt : List (List Nat)) : Bool := (List.range l.length).all fun i => match nthL l i with
  | none => true
  | some o => (dt.getD i []).all fun j => o.after.any fun e => Region.binds .any e && e.on == j
def dstOf (l : List Oper) (j : Nat) : Option Nat := match nthL l j with | some o => o.dst | none => none
def chkE (l : List Oper) (D : List Nat) : Bool := D.all fun d => l.any fun o => o.dst == some d
/-- What a step knows. -/
structure Kx (dt : List (List Nat)) (w0 : World) (c0 : Colr) (CB : List Nat) (Fs : List RF) (i : Nat) (b : BB) (f : FF) (w : World) (c : Colr) : Prop where
  gi : GI w c
  ext : Ext CB w0 c0 w c
  fac : All Fs b f w c
  self : b i = false
  has : ∀ j k, b j = true → dep dt j k = true → b k = true
  done : ∀ j, dep dt i j = true → b j = true
section
variable {P : Program} {l : List Oper} {dt : List (List Nat)} {Q : Exit → Act → World → Prop} {n : Nat} {a : Act} {m : Nat → Option Value} {D CB : List Nat} {Fs : List RF} {V : Nat → TyC} {w0 : World} {c0 : Colr}
theorem Kx.nyet {i : Nat} {b : BB} {f : FF} {w : World} {c : Colr} (K : Kx dt w0 c0 CB Fs i b f w c) (j : Nat) (h : dep dt j i = true) : b j = false := by
  cases hb : b j with
  | false => rfl
  | true =>
    have := K.has j i hb h
    rw [K.self] at this
    cases this
theorem Kx.via {i : Nat} {b : BB} {f : FF} {w : World} {c : Colr} (K : Kx dt w0 c0 CB Fs i b f w c) {j : Nat} (h : b j = true) (k : Nat) (hk : dep dt j k = true) : b k = true := K.has j k h hk
def OpStep (P : Program) (l : List Oper) (dt : List (List Nat)) (Q : Exit → Act → World → Prop) (n : Nat) (a : Act) (m : Nat → Option Value) (D CB : List Nat) (Fs : List RF) (V : Nat → TyC) (w0 : World) (c0 : Colr) (i : Nat) : Prop :=
  ∀ (b : BB) (f : FF) (w : World) (c : Colr) (x : Act) (o : Oper), J l.toArray w0 c0 CB Fs V b f w c → (∀ d, D.contains d = false → f d = none) → Fr a x f → Ev n a m → nthL l i = some o → Kx dt w0 c0 CB Fs i b f w c → Step P l.toArray Q CB Fs V b f w c x i o
def AllS (S : Nat → Prop) : Nat → Nat → Prop
  | _, 0 => True
  | k, r + 1 => S k ∧ AllS S (k + 1) r
theorem AllS.at {S : Nat → Prop} : ∀ {r k : Nat}, AllS S k r → ∀ i, k ≤ i → i < k + r → S i
  | 0, k, _, i, h1, h2 => by omega
  | r + 1, k, h, i, h1, h2 => by
    by_cases hi : i = k
    · subst hi; exact h.1
    · exact AllS.at h.2 i (by omega) (by omega)
theorem chkT_at (h : chkT l dt = true) {i j : Nat} {o : Oper} (ho : nthL l i = some o) (hd : dep dt i j = true) : ∃ e ∈ o.after, Region.binds .any e = true ∧ e.on = j := by
  have hi : i < l.length := by rw [nthL_eq] at ho; exact (List.getElem?_eq_some_iff.1 ho).1
  have h1 := List.all_eq_true.1 h i (by simpa using hi)
  rw [ho] at h1
  have h2 := List.all_eq_true.1 h1 j (by simpa [dep] using hd)
  obtain ⟨k, hk, h3⟩ := Array.any_eq_true.1 h2
  rw [Bool.and_eq_true] at h3
  exact ⟨o.after[k], Array.getElem_mem hk, h3.1, by simpa using h3.2⟩
theorem dep_some {i j : Nat} (hT : chkT l dt = true) (hd : dep dt i j = true) : True := trivial

/-- A region, by terms. -/
theorem region_st {id : Nat} {dr : Bool} (dt : List (List Nat)) (D CB : List Nat) (V : Nat → TyC) (hE : Ev n a m) (hg : GI w0 c0)
    (hF : All Fs (fun _ => false) (fun _ => none) w0 c0) (hS : ∀ Q, AllS (OpStep P l dt Q n a m D CB Fs V w0 c0) 0 l.length)
    (hdone : ∀ (b : BB) (f : FF) (w : World) (c : Colr) (x : Act), GI w c → Ext CB w0 c0 w c → All Fs b f w c → (∀ i, i < l.length → b i = true) → (∀ d, D.contains d = true → ∃ v, f d = some v ∧ (V d).sat v w c) → (∀ d, D.contains d = false → f d = none) → Fr a x f → Q .normal x w) (hm : dr = true → P.follows .mixedOrders = true := by intro _; kernel_rfl) (hchk : chk l.toArray D = true := by kernel_rfl) (hT : chkT l dt = true := by kernel_rfl) (hD : chkE l D = true := by kernel_rfl) (hL : decide (dt.length ≤ l.length) = true := by rfl) (hCB : (CB.contains 0 || CB.contains 1) = false := by rfl) :
    (Code.region id l.toArray dr).wp P Q a w0 := by
  refine region_tz hm D hchk CB Fs V hCB hg hF ?_ ?_
  · intro b f w c x i o hi hJ hout hF' ho hbi ha
    have ho' : nthL l i = some o := by rw [nthL_eq]; simpa using ho
    have hi' : i < l.length := by simpa using hi
    refine AllS.at (hS Q) i (by omega) (by omega) b f w c x o hJ (fun d hd => hout d (by simpa using hd)) hF' hE ho' ⟨hJ.gi, hJ.ext, hJ.fac, hbi, fun j k hj hd => ?_, fun j hd => ?_⟩
    · cases hoj : nthL l j with
      | none =>
        exfalso
        have hlen : j < l.length := by
          refine Decidable.byContradiction fun hn => ?_
          have h0 : dt.length ≤ l.length := by simpa using hL
          unfold dep at hd
          rw [List.getD_eq_getElem?_getD, List.getElem?_eq_none (by omega)] at hd
          simp at hd
        rw [nthL_eq, List.getElem?_eq_getElem hlen] at hoj
        cases hoj
      | some oj =>
        obtain ⟨e, he, hb, rfl⟩ := chkT_at hT hoj hd
        rw [nthL_eq] at hoj
        exact hJ.cl j oj (by simpa using hoj) hj e he hb
    · obtain ⟨e, he, hb, rfl⟩ := chkT_at hT ho' hd
      exact ha e he hb
  · intro b f w c x hJ hb hout hF'
    refine hdone b f w c x hJ.gi hJ.ext hJ.fac (fun i hi => hb i (by simpa using hi)) (fun d hd => ?_) (fun d hd => hout d (by simpa using hd)) hF'
    have h1 := List.all_eq_true.1 hD d (by simpa using hd)
    obtain ⟨o, ho, h2⟩ := List.any_eq_true.1 h1
    obtain ⟨i, hi, rfl⟩ := List.getElem_of_mem ho
    have h3 : l[i].dst = some d := by simpa using h2
    have h4 := (hJ.set i l[i] d (by simp [hi]) h3).1 (hb i (by simpa using hi))
    cases hf : f d with
    | none => exact absurd hf h4
    | some v => exact ⟨v, rfl, hJ.typ d v hf⟩

/-! ### operands -/
inductive Ar where
  | s (t j : Nat)
  | o (t : Nat) (v : Value)
  | p (t : Nat) (v : Value) (j : Nat)
  | k (v : Value)
def Ar.opd : Ar → Operand
  | .s t _ => .tmp t
  | .o t _ => .tmp t
  | .p t _ _ => .tmp t
  | .k v => .const v
def Ar.W : Ar → Value → Value
  | .s _ _, v => v
  | .o _ u, _ => u
  | .p _ u _, _ => u
  | .k u, _ => u
def Ar.T (V : Nat → TyC) (w : World) (c : Colr) : Ar → Value → Prop
  | .s t _, v => (V t).sat v w c
  | .o _ _, _ => True
  | .p _ _ _, _ => True
  | .k _, _ => True
def Ar.ok (n : Nat) (l : List Oper) (dt : List (List Nat)) (m : Nat → Option Value) (D : List Nat) (i : Nat) : Ar → Prop
  | .s t j => dep dt i j = true ∧ decide (t < n) = true ∧ dstOf l j = some t
  | .o t v => m t = some v ∧ D.contains t = false
  | .p t v j => m t = some v ∧ dep dt j i = true ∧ dstOf l j = some t
  | .k _ => True
/-- An operand with the check that it is at hand. -/
structure XA (n : Nat) (l : List Oper) (dt : List (List Nat)) (m : Nat → Option Value) (D : List Nat) (i : Nat) where
  r : Ar
  ok : r.ok n l dt m D i
abbrev rS {n : Nat} {l : List Oper} {dt : List (List Nat)} {m : Nat → Option Value} {D : List Nat} {i : Nat} (t j : Nat) (h : dep dt i j = true ∧ decide (t < n) = true ∧ dstOf l j = some t := by exact ⟨rfl, rfl, rfl⟩) : XA n l dt m D i := ⟨.s t j, h⟩
abbrev rO {n : Nat} {l : List Oper} {dt : List (List Nat)} {m : Nat → Option Value} {D : List Nat} {i : Nat} (t : Nat) {v : Value} (h : m t = some v ∧ D.contains t = false := by exact ⟨rfl, rfl⟩) : XA n l dt m D i := ⟨.o t v, h⟩
abbrev rP {n : Nat} {l : List Oper} {dt : List (List Nat)} {m : Nat → Option Value} {D : List Nat} {i : Nat} (t j : Nat) {v : Value} (h : m t = some v ∧ dep dt j i = true ∧ dstOf l j = some t := by exact ⟨rfl, rfl, rfl⟩) : XA n l dt m D i := ⟨.p t v j, h⟩
abbrev rK {n : Nat} {l : List Oper} {dt : List (List Nat)} {m : Nat → Option Value} {D : List Nat} {i : Nat} (v : Value) : XA n l dt m D i := ⟨.k v, trivial⟩
variable {i : Nat}
theorem XA.ev (r : XA n l dt m D i) {b : BB} {f : FF} {w : World} {c : Colr} {x : Act} (hJ : J l.toArray w0 c0 CB Fs V b f w c) (hout : ∀ d, D.contains d = false → f d = none) (hF : Fr a x f) (hE : Ev n a m) (K : Kx dt w0 c0 CB Fs i b f w c) : ∃ v, x.eval r.r.opd = r.r.W v ∧ r.r.T V w c v := by
  obtain ⟨r, hr⟩ := r
  cases r with
  | s t j =>
    obtain ⟨h1, h2⟩ := hr
    have h2' := h2.2
    unfold dstOf at h2'
    split at h2'
    · rename_i oj hoj
      rw [nthL_eq] at hoj
      have h3 := (hJ.set j oj t (by simpa using hoj) h2').1 (K.done j h1)
      cases hf : f t with
      | none => exact absurd hf h3
      | some v =>
        have h4 := hJ.typ t v hf
        exact ⟨v, hF.in (by rw [hE.1]; exact of_decide_eq_true h2.1) hf, h4⟩
    · cases h2'
  | o t v =>
    obtain ⟨h1, h2⟩ := hr
    obtain ⟨h3, h4⟩ := hE.2.2 t v h1
    exact ⟨v, hF.out (by rw [hE.1]; exact h3) (hout t h2) h4, trivial⟩
  | p t v j =>
    obtain ⟨h1, h2, h5⟩ := hr
    obtain ⟨h3, h4⟩ := hE.2.2 t v h1
    refine ⟨v, hF.out (by rw [hE.1]; exact h3) ?_ h4, trivial⟩
    unfold dstOf at h5
    split at h5
    · rename_i oj hoj
      rw [nthL_eq] at hoj
      cases hf : f t with
      | none => rfl
      | some u =>
        have := (hJ.set j oj t (by simpa using hoj) h5).2 (by rw [hf]; simp)
        rw [K.nyet j h2] at this
        cases this
    · cases h5
  | k v => exact ⟨v, rfl, trivial⟩

/-- The guard, if there is one, lets the operation run. -/
def Gd (l : List Oper) (n : Nat) (dt : List (List Nat)) (V : Nat → TyC) (i : Nat) (g : Option (Nat × Bool)) : Prop := match g with
  | none => True
  | some (j, q) => dep dt i j = true ∧ ∃ d, (decide (d < n) = true ∧ dstOf l j = some d) ∧ V d = TyC.eq (.bool q)
def Gn (l : List Oper) (n : Nat) (dt : List (List Nat)) (V : Nat → TyC) (i : Nat) (g : Option (Nat × Bool)) : Prop := match g with
  | none => False
  | some (j, q) => dep dt i j = true ∧ ∃ d, (decide (d < n) = true ∧ dstOf l j = some d) ∧ (V d = TyC.eq (.bool !q) ∨ V d = TyC.eq undef)
section
variable {b : BB} {f : FF} {w : World} {c : Colr} {x : Act} {o : Oper}
theorem guard_slot {j d : Nat} (hJ : J l.toArray w0 c0 CB Fs V b f w c) (hF : Fr a x f) (hE : Ev n a m) (hj : b j = true) (hd : decide (d < n) = true ∧ dstOf l j = some d) : ∃ oj v, l.toArray[j]? = some oj ∧ oj.dst = some d ∧ x.tmps[d]? = some v ∧ (V d).sat v w c := by
  have h2 := hd.2
  unfold dstOf at h2
  split at h2
  · rename_i oj hoj
    rw [nthL_eq] at hoj
    have h3 := (hJ.set j oj d (by simpa using hoj) h2).1 hj
    cases hf : f d with
    | none => exact absurd hf h3
    | some v =>
      have hlt : d < a.tmps.size := by rw [hE.1]; exact of_decide_eq_true hd.1
      have he : x.eval (.tmp d) = v := hF.in hlt hf
      refine ⟨oj, v, by simpa using hoj, h2, ?_, hJ.typ d v hf⟩
      have hlx : d < x.tmps.size := by rw [hF.size]; exact hlt
      have : x.tmps.getD d undef = v := he
      simp only [Array.getD, hlx, dif_pos] at this
      rw [Array.getElem?_eq_getElem hlx]
      exact congrArg some this
  · cases h2
theorem Gd.wanted (hg : Gd l n dt V i o.guard) (hJ : J l.toArray w0 c0 CB Fs V b f w c) (hF : Fr a x f) (hE : Ev n a m) (K : Kx dt w0 c0 CB Fs i b f w c) : Region.wanted o (yielded l.toArray x.tmps) = true := by
  unfold Gd at hg
  split at hg
  · rename_i h; simp [Region.wanted, h]
  · rename_i j q h
    obtain ⟨h1, d, h2, h3⟩ := hg
    obtain ⟨oj, v, q1, q2, q3, q4⟩ := guard_slot hJ hF hE (K.done j h1) h2
    rw [h3] at q4
    obtain rfl : v = .bool q := q4
    simp only [List.getElem?_toArray] at q1
    simp [Region.wanted, h, yielded, q1, q2, q3]
theorem Gn.not (hg : Gn l n dt V i o.guard) (hJ : J l.toArray w0 c0 CB Fs V b f w c) (hF : Fr a x f) (hE : Ev n a m) (K : Kx dt w0 c0 CB Fs i b f w c) : Region.wanted o (yielded l.toArray x.tmps) = false := by
  unfold Gn at hg
  split at hg
  · exact hg.elim
  · rename_i j q h
    obtain ⟨h1, d, h2, h3⟩ := hg
    obtain ⟨oj, v, q1, q2, q3, q4⟩ := guard_slot hJ hF hE (K.done j h1) h2
    simp only [List.getElem?_toArray] at q1
    rcases h3 with h3 | h3
    · rw [h3] at q4
      obtain rfl : v = .bool !q := q4
      simp [Region.wanted, h, yielded, q1, q2, q3]
    · rw [h3] at q4
      obtain rfl : v = undef := q4
      simp [Region.wanted, h, yielded, q1, q2, q3, undef]
end
theorem sMv (d : Nat) {o : Oper} (r : XA n l dt m D i) (hi : nthL l i = some o := by rfl) (hop : o.op = .move r.r.opd ∨ o.op = .assign r.r.opd := by first | exact .inl rfl | exact .inr rfl) (hd : o.dst = some d := by rfl) (hA : Fs.filter (aff [] i (some d)) = [] := by rfl) (hT : ∀ w c v, r.r.T V w c v → (V d).sat (r.r.W v) w c := by first | exact fun _ _ _ h => h | exact fun _ _ _ _ => rfl) (hg : Gd l n dt V i o.guard := by first | exact trivial | exact ⟨rfl, _, ⟨rfl, rfl⟩, rfl⟩) : OpStep P l dt Q n a m D CB Fs V w0 c0 i := by
  intro b f w c x o' hJ hout hF hE ho K
  obtain rfl : o = o' := Option.some.inj (hi.symm.trans ho)
  obtain ⟨v, ev, sv⟩ := r.ev hJ hout hF hE K
  exact .pure d (hg.wanted hJ hF hE K) hd (by rw [hA]; trivial) hJ.gi (ex_move hop ev) (hT w c v sv)
theorem sNo (d : Nat) {o : Oper} (hV : V d = TyC.eq undef := by rfl) (hi : nthL l i = some o := by rfl) (hd : o.dst = some d := by rfl) (hA : Fs.filter (aff [] i (some d)) = [] := by rfl) (hg : Gn l n dt V i o.guard := by first | exact ⟨rfl, _, ⟨rfl, rfl⟩, .inl rfl⟩ | exact ⟨rfl, _, ⟨rfl, rfl⟩, .inr rfl⟩) : OpStep P l dt Q n a m D CB Fs V w0 c0 i := by
  intro b f w c x o' hJ hout hF hE ho K
  obtain rfl : o = o' := Option.some.inj (hi.symm.trans ho)
  exact .non d (hg.not hJ hF hE K) hd (by rw [hA]; trivial) (by rw [hV]; rfl)
theorem sLd (d : Nat) {o : Oper} (r0 : XA n l dt m D i) {ty : TypeId} (L : ∀ {b : BB} {f : FF} {w : World} {c : Colr} {v : Value}, Kx dt w0 c0 CB Fs i b f w c → r0.r.T V w c v → ∃ ad u, r0.r.W v = .pointer (some ad) ∧ (loadVar ty ad).run P w = .ok u w ∧ (V d).sat u w c) (hi : nthL l i = some o := by rfl) (hop : o.op = .load ty r0.r.opd := by rfl) (hd : o.dst = some d := by rfl) (hA : Fs.filter (aff [] i (some d)) = [] := by rfl) (hg : Gd l n dt V i o.guard := by first | exact trivial | exact ⟨rfl, _, ⟨rfl, rfl⟩, rfl⟩) : OpStep P l dt Q n a m D CB Fs V w0 c0 i := by
  intro b f w c x o' hJ hout hF hE ho K
  obtain rfl : o = o' := Option.some.inj (hi.symm.trans ho)
  obtain ⟨v0, ev0, sv0⟩ := r0.ev hJ hout hF hE K
  obtain ⟨ad, u, h1, h2, h3⟩ := L K sv0
  exact .pure d (hg.wanted hJ hF hE K) hd (by rw [hA]; trivial) hJ.gi (ex_load hop (ev0.trans h1) h2) h3
theorem sFa (d : Nat) {o : Oper} (r0 : XA n l dt m D i) {ty : TypeId} {k : Nat} {u : Value} (L : ∀ {w : World} {v : Value}, (Instr.fieldAt ty (r0.r.W v) k).run P w = .ok u w) (hV : V d = TyC.eq u := by rfl) (hT : ∀ w c v, r0.r.T V w c v → True := by intros; trivial) (hi : nthL l i = some o := by rfl) (hop : o.op = .fieldAddr ty r0.r.opd k := by rfl) (hd : o.dst = some d := by rfl) (hA : Fs.filter (aff [] i (some d)) = [] := by rfl) (hg : Gd l n dt V i o.guard := by first | exact trivial | exact ⟨rfl, _, ⟨rfl, rfl⟩, rfl⟩) : OpStep P l dt Q n a m D CB Fs V w0 c0 i := by
  intro b f w c x o' hJ hout hF hE ho K
  obtain rfl : o = o' := Option.some.inj (hi.symm.trans ho)
  obtain ⟨v0, ev0, sv0⟩ := r0.ev hJ hout hF hE K
  exact .pure d (hg.wanted hJ hF hE K) hd (by rw [hA]; trivial) hJ.gi (ex_field hop ev0 L) (by rw [hV]; rfl)
theorem sEx (d : Nat) {o : Oper} (r0 : XA n l dt m D i) {k : Nat} (L : ∀ {w : World} {c : Colr} {v : Value}, r0.r.T V w c v → ∃ vs u, r0.r.W v = .tuple vs ∧ vs[k]? = some u ∧ (V d).sat u w c) (hi : nthL l i = some o := by rfl) (hop : o.op = .extract r0.r.opd k := by rfl) (hd : o.dst = some d := by rfl) (hA : Fs.filter (aff [] i (some d)) = [] := by rfl) (hg : Gd l n dt V i o.guard := by first | exact trivial | exact ⟨rfl, _, ⟨rfl, rfl⟩, rfl⟩) : OpStep P l dt Q n a m D CB Fs V w0 c0 i := by
  intro b f w c x o' hJ hout hF hE ho K
  obtain rfl : o = o' := Option.some.inj (hi.symm.trans ho)
  obtain ⟨v0, ev0, sv0⟩ := r0.ev hJ hout hF hE K
  obtain ⟨vs, u, h1, h2, h3⟩ := L sv0
  exact .pure d (hg.wanted hJ hF hE K) hd (by rw [hA]; trivial) hJ.gi (ex_extract hop (ev0.trans h1) h2) h3
theorem sUn (d : Nat) {o : Oper} (r0 : XA n l dt m D i) {op : UnOp} {ty : TypeId} {u : Value} (L : ∀ {w : World} {v : Value}, (Op.unary op (r0.r.W v)).run P w = .ok u w) (hV : V d = TyC.eq u := by rfl) (hi : nthL l i = some o := by rfl) (hop : o.op = .unOp op ty r0.r.opd := by rfl) (hd : o.dst = some d := by rfl) (hA : Fs.filter (aff [] i (some d)) = [] := by rfl) (hg : Gd l n dt V i o.guard := by first | exact trivial | exact ⟨rfl, _, ⟨rfl, rfl⟩, rfl⟩) : OpStep P l dt Q n a m D CB Fs V w0 c0 i := by
  intro b f w c x o' hJ hout hF hE ho K
  obtain rfl : o = o' := Option.some.inj (hi.symm.trans ho)
  obtain ⟨v0, ev0, sv0⟩ := r0.ev hJ hout hF hE K
  exact .pure d (hg.wanted hJ hF hE K) hd (by rw [hA]; trivial) hJ.gi (ex_un hop ev0 L) (by rw [hV]; rfl)
theorem sUv (d : Nat) {o : Oper} (r0 : XA n l dt m D i) {op : UnOp} {ty : TypeId} {u z : Value} (hz : ∀ {w : World} {c : Colr} {v : Value}, r0.r.T V w c v → r0.r.W v = z) (L : ∀ {w : World}, (Op.unary op z).run P w = .ok u w) (hV : V d = TyC.eq u := by rfl) (hi : nthL l i = some o := by rfl) (hop : o.op = .unOp op ty r0.r.opd := by rfl) (hd : o.dst = some d := by rfl) (hA : Fs.filter (aff [] i (some d)) = [] := by rfl) (hg : Gd l n dt V i o.guard := by first | exact trivial | exact ⟨rfl, _, ⟨rfl, rfl⟩, rfl⟩) : OpStep P l dt Q n a m D CB Fs V w0 c0 i := by
  intro b f w c x o' hJ hout hF hE ho K
  obtain rfl : o = o' := Option.some.inj (hi.symm.trans ho)
  obtain ⟨v0, ev0, sv0⟩ := r0.ev hJ hout hF hE K
  exact .pure d (hg.wanted hJ hF hE K) hd (by rw [hA]; trivial) hJ.gi (ex_un hop (ev0.trans (hz sv0)) L) (by rw [hV]; rfl)
theorem sBin (d : Nat) {o : Oper} (r0 : XA n l dt m D i) (r1 : XA n l dt m D i) {op : BinOp} {ty ty2 : TypeId} {u z z' : Value} (hz : ∀ {w : World} {c : Colr} {v v' : Value}, r0.r.T V w c v → r1.r.T V w c v' → r0.r.W v = z ∧ r1.r.W v' = z') (G : ∀ {w : World}, (eqGuard op ty r0.r.opd r1.r.opd z z').run P w = .ok () w) (L : ∀ {w : World}, (binOp op ty z z').run P w = .ok u w) (hV : V d = TyC.eq u := by rfl) (hi : nthL l i = some o := by rfl) (hop : o.op = .binOp op ty r0.r.opd r1.r.opd ty2 := by rfl) (hd : o.dst = some d := by rfl) (hA : Fs.filter (aff [] i (some d)) = [] := by rfl) (hg : Gd l n dt V i o.guard := by first | exact trivial | exact ⟨rfl, _, ⟨rfl, rfl⟩, rfl⟩) : OpStep P l dt Q n a m D CB Fs V w0 c0 i := by
  intro b f w c x o' hJ hout hF hE ho K
  obtain rfl : o = o' := Option.some.inj (hi.symm.trans ho)
  obtain ⟨v0, ev0, sv0⟩ := r0.ev hJ hout hF hE K
  obtain ⟨v1, ev1, sv1⟩ := r1.ev hJ hout hF hE K
  exact .pure d (hg.wanted hJ hF hE K) hd (by rw [hA]; trivial) hJ.gi (ex_bin hop (ev0.trans (hz sv0 sv1).1) (ev1.trans (hz sv0 sv1).2) G L) (by rw [hV]; rfl)
theorem sIx (d : Nat) {o : Oper} (r0 : XA n l dt m D i) (r1 : XA n l dt m D i) {ty : TypeId} (L : ∀ {b : BB} {f : FF} {w : World} {c : Colr} {v v' : Value}, Kx dt w0 c0 CB Fs i b f w c → r0.r.T V w c v → r1.r.T V w c v' → ∃ u, (Instr.indexAt ty (r0.r.W v) (r1.r.W v')).run P w = .ok u w ∧ (V d).sat u w c) (hi : nthL l i = some o := by rfl) (hop : o.op = .indexAddr ty r0.r.opd r1.r.opd := by rfl) (hd : o.dst = some d := by rfl) (hA : Fs.filter (aff [] i (some d)) = [] := by rfl) (hg : Gd l n dt V i o.guard := by first | exact trivial | exact ⟨rfl, _, ⟨rfl, rfl⟩, rfl⟩) : OpStep P l dt Q n a m D CB Fs V w0 c0 i := by
  intro b f w c x o' hJ hout hF hE ho K
  obtain rfl : o = o' := Option.some.inj (hi.symm.trans ho)
  obtain ⟨v0, ev0, sv0⟩ := r0.ev hJ hout hF hE K
  obtain ⟨v1, ev1, sv1⟩ := r1.ev hJ hout hF hE K
  obtain ⟨u, h1, h2⟩ := L K sv0 sv1
  exact .pure d (hg.wanted hJ hF hE K) hd (by rw [hA]; trivial) hJ.gi (ex_index hop ev0 ev1 h1) h2
theorem sC0 (d : Nat) {o : Oper} {fn : Nat} {tys : Array TypeId} {fd : Func}  (L : ∀ {b : BB} {f : FF} {w : World} {c : Colr}, Kx dt w0 c0 CB Fs i b f w c → CV P fn #[] w c (V d)) (hfn : P.funcs[fn]? = some fd) (hi : nthL l i = some o := by rfl) (hop : o.op = .call { callee := .value (.func fn), args := #[], argTypes := tys } := by rfl) (hd : o.dst = some d := by rfl) (hA : Fs.filter (aff [] i (some d)) = [] := by rfl) (hnb : (fd.name == "runtime.NumGoroutine" || fd.body.isNone) = false := by rfl) (hg : Gd l n dt V i o.guard := by first | exact trivial | exact ⟨rfl, _, ⟨rfl, rfl⟩, rfl⟩) : OpStep P l dt Q n a m D CB Fs V w0 c0 i := by
  intro b f w c x o' hJ hout hF hE ho K
  obtain rfl : o = o' := Option.some.inj (hi.symm.trans ho)
  exact .call d (hg.wanted hJ hF hE K) hd hA hJ.gi hop (vs := #[]) (by simp []) (enter_of hfn hnb _) (L K)
theorem sC1 (d : Nat) {o : Oper} {fn : Nat} {tys : Array TypeId} {fd : Func} (r0 : XA n l dt m D i) (L : ∀ {b : BB} {f : FF} {w : World} {c : Colr} {v0 : Value}, Kx dt w0 c0 CB Fs i b f w c → r0.r.T V w c v0 → CV P fn #[r0.r.W v0] w c (V d)) (hfn : P.funcs[fn]? = some fd) (hi : nthL l i = some o := by rfl) (hop : o.op = .call { callee := .value (.func fn), args := #[r0.r.opd], argTypes := tys } := by rfl) (hd : o.dst = some d := by rfl) (hA : Fs.filter (aff [] i (some d)) = [] := by rfl) (hnb : (fd.name == "runtime.NumGoroutine" || fd.body.isNone) = false := by rfl) (hg : Gd l n dt V i o.guard := by first | exact trivial | exact ⟨rfl, _, ⟨rfl, rfl⟩, rfl⟩) : OpStep P l dt Q n a m D CB Fs V w0 c0 i := by
  intro b f w c x o' hJ hout hF hE ho K
  obtain rfl : o = o' := Option.some.inj (hi.symm.trans ho)
  obtain ⟨v0, ev0, sv0⟩ := r0.ev hJ hout hF hE K
  exact .call d (hg.wanted hJ hF hE K) hd hA hJ.gi hop (vs := #[r0.r.W v0]) (by simp [ev0]) (enter_of hfn hnb _) (L K sv0)
theorem sC2 (d : Nat) {o : Oper} {fn : Nat} {tys : Array TypeId} {fd : Func} (r0 : XA n l dt m D i) (r1 : XA n l dt m D i) (L : ∀ {b : BB} {f : FF} {w : World} {c : Colr} {v0 v1 : Value}, Kx dt w0 c0 CB Fs i b f w c → r0.r.T V w c v0 → r1.r.T V w c v1 → CV P fn #[r0.r.W v0, r1.r.W v1] w c (V d)) (hfn : P.funcs[fn]? = some fd) (hi : nthL l i = some o := by rfl) (hop : o.op = .call { callee := .value (.func fn), args := #[r0.r.opd, r1.r.opd], argTypes := tys } := by rfl) (hd : o.dst = some d := by rfl) (hA : Fs.filter (aff [] i (some d)) = [] := by rfl) (hnb : (fd.name == "runtime.NumGoroutine" || fd.body.isNone) = false := by rfl) (hg : Gd l n dt V i o.guard := by first | exact trivial | exact ⟨rfl, _, ⟨rfl, rfl⟩, rfl⟩) : OpStep P l dt Q n a m D CB Fs V w0 c0 i := by
  intro b f w c x o' hJ hout hF hE ho K
  obtain rfl : o = o' := Option.some.inj (hi.symm.trans ho)
  obtain ⟨v0, ev0, sv0⟩ := r0.ev hJ hout hF hE K
  obtain ⟨v1, ev1, sv1⟩ := r1.ev hJ hout hF hE K
  exact .call d (hg.wanted hJ hF hE K) hd hA hJ.gi hop (vs := #[r0.r.W v0, r1.r.W v1]) (by simp [ev0, ev1]) (enter_of hfn hnb _) (L K sv0 sv1)
theorem sC3 (d : Nat) {o : Oper} {fn : Nat} {tys : Array TypeId} {fd : Func} (r0 : XA n l dt m D i) (r1 : XA n l dt m D i) (r2 : XA n l dt m D i) (L : ∀ {b : BB} {f : FF} {w : World} {c : Colr} {v0 v1 v2 : Value}, Kx dt w0 c0 CB Fs i b f w c → r0.r.T V w c v0 → r1.r.T V w c v1 → r2.r.T V w c v2 → CV P fn #[r0.r.W v0, r1.r.W v1, r2.r.W v2] w c (V d)) (hfn : P.funcs[fn]? = some fd) (hi : nthL l i = some o := by rfl) (hop : o.op = .call { callee := .value (.func fn), args := #[r0.r.opd, r1.r.opd, r2.r.opd], argTypes := tys } := by rfl) (hd : o.dst = some d := by rfl) (hA : Fs.filter (aff [] i (some d)) = [] := by rfl) (hnb : (fd.name == "runtime.NumGoroutine" || fd.body.isNone) = false := by rfl) (hg : Gd l n dt V i o.guard := by first | exact trivial | exact ⟨rfl, _, ⟨rfl, rfl⟩, rfl⟩) : OpStep P l dt Q n a m D CB Fs V w0 c0 i := by
  intro b f w c x o' hJ hout hF hE ho K
  obtain rfl : o = o' := Option.some.inj (hi.symm.trans ho)
  obtain ⟨v0, ev0, sv0⟩ := r0.ev hJ hout hF hE K
  obtain ⟨v1, ev1, sv1⟩ := r1.ev hJ hout hF hE K
  obtain ⟨v2, ev2, sv2⟩ := r2.ev hJ hout hF hE K
  exact .call d (hg.wanted hJ hF hE K) hd hA hJ.gi hop (vs := #[r0.r.W v0, r1.r.W v1, r2.r.W v2]) (by simp [ev0, ev1, ev2]) (enter_of hfn hnb _) (L K sv0 sv1 sv2)
theorem sC4 (d : Nat) {o : Oper} {fn : Nat} {tys : Array TypeId} {fd : Func} (r0 : XA n l dt m D i) (r1 : XA n l dt m D i) (r2 : XA n l dt m D i) (r3 : XA n l dt m D i) (L : ∀ {b : BB} {f : FF} {w : World} {c : Colr} {v0 v1 v2 v3 : Value}, Kx dt w0 c0 CB Fs i b f w c → r0.r.T V w c v0 → r1.r.T V w c v1 → r2.r.T V w c v2 → r3.r.T V w c v3 → CV P fn #[r0.r.W v0, r1.r.W v1, r2.r.W v2, r3.r.W v3] w c (V d)) (hfn : P.funcs[fn]? = some fd) (hi : nthL l i = some o := by rfl) (hop : o.op = .call { callee := .value (.func fn), args := #[r0.r.opd, r1.r.opd, r2.r.opd, r3.r.opd], argTypes := tys } := by rfl) (hd : o.dst = some d := by rfl) (hA : Fs.filter (aff [] i (some d)) = [] := by rfl) (hnb : (fd.name == "runtime.NumGoroutine" || fd.body.isNone) = false := by rfl) (hg : Gd l n dt V i o.guard := by first | exact trivial | exact ⟨rfl, _, ⟨rfl, rfl⟩, rfl⟩) : OpStep P l dt Q n a m D CB Fs V w0 c0 i := by
  intro b f w c x o' hJ hout hF hE ho K
  obtain rfl : o = o' := Option.some.inj (hi.symm.trans ho)
  obtain ⟨v0, ev0, sv0⟩ := r0.ev hJ hout hF hE K
  obtain ⟨v1, ev1, sv1⟩ := r1.ev hJ hout hF hE K
  obtain ⟨v2, ev2, sv2⟩ := r2.ev hJ hout hF hE K
  obtain ⟨v3, ev3, sv3⟩ := r3.ev hJ hout hF hE K
  exact .call d (hg.wanted hJ hF hE K) hd hA hJ.gi hop (vs := #[r0.r.W v0, r1.r.W v1, r2.r.W v2, r3.r.W v3]) (by simp [ev0, ev1, ev2, ev3]) (enter_of hfn hnb _) (L K sv0 sv1 sv2 sv3)
theorem sB0 (d : Nat) {o : Oper} {ty : TypeId}  (L : ∀ {b : BB} {f : FF} {w : World} {c : Colr}, Kx dt w0 c0 CB Fs i b f w c → ∃ u, (Instr.build ty #[]).run P w = .ok u w ∧ (V d).sat u w c) (hi : nthL l i = some o := by rfl) (hop : o.op = .build ty #[] := by rfl) (hd : o.dst = some d := by rfl) (hA : Fs.filter (aff [] i (some d)) = [] := by rfl) (hg : Gd l n dt V i o.guard := by first | exact trivial | exact ⟨rfl, _, ⟨rfl, rfl⟩, rfl⟩) : OpStep P l dt Q n a m D CB Fs V w0 c0 i := by
  intro b f w c x o' hJ hout hF hE ho K
  obtain rfl : o = o' := Option.some.inj (hi.symm.trans ho)
  obtain ⟨u, h1, h2⟩ := L K
  exact .pure d (hg.wanted hJ hF hE K) hd (by rw [hA]; trivial) hJ.gi (ex_build hop (by simp []) h1) h2
theorem sB1 (d : Nat) {o : Oper} {ty : TypeId} (r0 : XA n l dt m D i) (L : ∀ {b : BB} {f : FF} {w : World} {c : Colr} {v0 : Value}, Kx dt w0 c0 CB Fs i b f w c → r0.r.T V w c v0 → ∃ u, (Instr.build ty #[(0, r0.r.W v0)]).run P w = .ok u w ∧ (V d).sat u w c) (hi : nthL l i = some o := by rfl) (hop : o.op = .build ty #[(0, r0.r.opd)] := by rfl) (hd : o.dst = some d := by rfl) (hA : Fs.filter (aff [] i (some d)) = [] := by rfl) (hg : Gd l n dt V i o.guard := by first | exact trivial | exact ⟨rfl, _, ⟨rfl, rfl⟩, rfl⟩) : OpStep P l dt Q n a m D CB Fs V w0 c0 i := by
  intro b f w c x o' hJ hout hF hE ho K
  obtain rfl : o = o' := Option.some.inj (hi.symm.trans ho)
  obtain ⟨v0, ev0, sv0⟩ := r0.ev hJ hout hF hE K
  obtain ⟨u, h1, h2⟩ := L K sv0
  exact .pure d (hg.wanted hJ hF hE K) hd (by rw [hA]; trivial) hJ.gi (ex_build hop (by simp [ev0]) h1) h2
theorem sB2 (d : Nat) {o : Oper} {ty : TypeId} (r0 : XA n l dt m D i) (r1 : XA n l dt m D i) (L : ∀ {b : BB} {f : FF} {w : World} {c : Colr} {v0 v1 : Value}, Kx dt w0 c0 CB Fs i b f w c → r0.r.T V w c v0 → r1.r.T V w c v1 → ∃ u, (Instr.build ty #[(0, r0.r.W v0), (1, r1.r.W v1)]).run P w = .ok u w ∧ (V d).sat u w c) (hi : nthL l i = some o := by rfl) (hop : o.op = .build ty #[(0, r0.r.opd), (1, r1.r.opd)] := by rfl) (hd : o.dst = some d := by rfl) (hA : Fs.filter (aff [] i (some d)) = [] := by rfl) (hg : Gd l n dt V i o.guard := by first | exact trivial | exact ⟨rfl, _, ⟨rfl, rfl⟩, rfl⟩) : OpStep P l dt Q n a m D CB Fs V w0 c0 i := by
  intro b f w c x o' hJ hout hF hE ho K
  obtain rfl : o = o' := Option.some.inj (hi.symm.trans ho)
  obtain ⟨v0, ev0, sv0⟩ := r0.ev hJ hout hF hE K
  obtain ⟨v1, ev1, sv1⟩ := r1.ev hJ hout hF hE K
  obtain ⟨u, h1, h2⟩ := L K sv0 sv1
  exact .pure d (hg.wanted hJ hF hE K) hd (by rw [hA]; trivial) hJ.gi (ex_build hop (by simp [ev0, ev1]) h1) h2
theorem sB3 (d : Nat) {o : Oper} {ty : TypeId} (r0 : XA n l dt m D i) (r1 : XA n l dt m D i) (r2 : XA n l dt m D i) (L : ∀ {b : BB} {f : FF} {w : World} {c : Colr} {v0 v1 v2 : Value}, Kx dt w0 c0 CB Fs i b f w c → r0.r.T V w c v0 → r1.r.T V w c v1 → r2.r.T V w c v2 → ∃ u, (Instr.build ty #[(0, r0.r.W v0), (1, r1.r.W v1), (2, r2.r.W v2)]).run P w = .ok u w ∧ (V d).sat u w c) (hi : nthL l i = some o := by rfl) (hop : o.op = .build ty #[(0, r0.r.opd), (1, r1.r.opd), (2, r2.r.opd)] := by rfl) (hd : o.dst = some d := by rfl) (hA : Fs.filter (aff [] i (some d)) = [] := by rfl) (hg : Gd l n dt V i o.guard := by first | exact trivial | exact ⟨rfl, _, ⟨rfl, rfl⟩, rfl⟩) : OpStep P l dt Q n a m D CB Fs V w0 c0 i := by
  intro b f w c x o' hJ hout hF hE ho K
  obtain rfl : o = o' := Option.some.inj (hi.symm.trans ho)
  obtain ⟨v0, ev0, sv0⟩ := r0.ev hJ hout hF hE K
  obtain ⟨v1, ev1, sv1⟩ := r1.ev hJ hout hF hE K
  obtain ⟨v2, ev2, sv2⟩ := r2.ev hJ hout hF hE K
  obtain ⟨u, h1, h2⟩ := L K sv0 sv1 sv2
  exact .pure d (hg.wanted hJ hF hE K) hd (by rw [hA]; trivial) hJ.gi (ex_build hop (by simp [ev0, ev1, ev2]) h1) h2
theorem sL1 (d : Nat) {o : Oper} {ty t : TypeId} {sz : Nat} {L : List TyC} (r0 : XA n l dt m D i) (H : ∀ {b : BB} {f : FF} {w : World} {c : Colr} {v0 : Value}, Kx dt w0 c0 CB Fs i b f w c → r0.r.T V w c v0 → ∃ cs, (Instr.buildSlice ty 1 #[(0, r0.r.W v0)]).run P w = .ok (.slice (some ⟨w.heap.size, 0, none⟩) 1 1) (w.alloc (.cells cs t)) ∧ cs.size = L.length * sz ∧ (catK sz L).sat cs w c) (hn : L.length = 1 := by rfl) (hV : V d = litC sz t L := by rfl) (hi : nthL l i = some o := by rfl) (hop : o.op = .buildSlice ty 1 #[(0, r0.r.opd)] := by rfl) (hd : o.dst = some d := by rfl) (hA : Fs.filter (aff [] i (some d)) = [] := by rfl) (hg : Gd l n dt V i o.guard := by first | exact trivial | exact ⟨rfl, _, ⟨rfl, rfl⟩, rfl⟩) : OpStep P l dt Q n a m D CB Fs V w0 c0 i := by
  intro b f w c x o' hJ hout hF hE ho K
  obtain rfl : o = o' := Option.some.inj (hi.symm.trans ho)
  obtain ⟨v0, ev0, sv0⟩ := r0.ev hJ hout hF hE K
  obtain ⟨cs, h1, h2, h3⟩ := H K sv0
  exact .litv d (L := L) (hg.wanted hJ hF hE K) hd hA hJ.gi hop (by simp [ev0]) h1 hn h2 h3 hV
theorem sL2 (d : Nat) {o : Oper} {ty t : TypeId} {sz : Nat} {L : List TyC} (r0 : XA n l dt m D i) (r1 : XA n l dt m D i) (H : ∀ {b : BB} {f : FF} {w : World} {c : Colr} {v0 v1 : Value}, Kx dt w0 c0 CB Fs i b f w c → r0.r.T V w c v0 → r1.r.T V w c v1 → ∃ cs, (Instr.buildSlice ty 2 #[(0, r0.r.W v0), (1, r1.r.W v1)]).run P w = .ok (.slice (some ⟨w.heap.size, 0, none⟩) 2 2) (w.alloc (.cells cs t)) ∧ cs.size = L.length * sz ∧ (catK sz L).sat cs w c) (hn : L.length = 2 := by rfl) (hV : V d = litC sz t L := by rfl) (hi : nthL l i = some o := by rfl) (hop : o.op = .buildSlice ty 2 #[(0, r0.r.opd), (1, r1.r.opd)] := by rfl) (hd : o.dst = some d := by rfl) (hA : Fs.filter (aff [] i (some d)) = [] := by rfl) (hg : Gd l n dt V i o.guard := by first | exact trivial | exact ⟨rfl, _, ⟨rfl, rfl⟩, rfl⟩) : OpStep P l dt Q n a m D CB Fs V w0 c0 i := by
  intro b f w c x o' hJ hout hF hE ho K
  obtain rfl : o = o' := Option.some.inj (hi.symm.trans ho)
  obtain ⟨v0, ev0, sv0⟩ := r0.ev hJ hout hF hE K
  obtain ⟨v1, ev1, sv1⟩ := r1.ev hJ hout hF hE K
  obtain ⟨cs, h1, h2, h3⟩ := H K sv0 sv1
  exact .litv d (L := L) (hg.wanted hJ hF hE K) hd hA hJ.gi hop (by simp [ev0, ev1]) h1 hn h2 h3 hV
theorem sL3 (d : Nat) {o : Oper} {ty t : TypeId} {sz : Nat} {L : List TyC} (r0 : XA n l dt m D i) (r1 : XA n l dt m D i) (r2 : XA n l dt m D i) (H : ∀ {b : BB} {f : FF} {w : World} {c : Colr} {v0 v1 v2 : Value}, Kx dt w0 c0 CB Fs i b f w c → r0.r.T V w c v0 → r1.r.T V w c v1 → r2.r.T V w c v2 → ∃ cs, (Instr.buildSlice ty 3 #[(0, r0.r.W v0), (1, r1.r.W v1), (2, r2.r.W v2)]).run P w = .ok (.slice (some ⟨w.heap.size, 0, none⟩) 3 3) (w.alloc (.cells cs t)) ∧ cs.size = L.length * sz ∧ (catK sz L).sat cs w c) (hn : L.length = 3 := by rfl) (hV : V d = litC sz t L := by rfl) (hi : nthL l i = some o := by rfl) (hop : o.op = .buildSlice ty 3 #[(0, r0.r.opd), (1, r1.r.opd), (2, r2.r.opd)] := by rfl) (hd : o.dst = some d := by rfl) (hA : Fs.filter (aff [] i (some d)) = [] := by rfl) (hg : Gd l n dt V i o.guard := by first | exact trivial | exact ⟨rfl, _, ⟨rfl, rfl⟩, rfl⟩) : OpStep P l dt Q n a m D CB Fs V w0 c0 i := by
  intro b f w c x o' hJ hout hF hE ho K
  obtain rfl : o = o' := Option.some.inj (hi.symm.trans ho)
  obtain ⟨v0, ev0, sv0⟩ := r0.ev hJ hout hF hE K
  obtain ⟨v1, ev1, sv1⟩ := r1.ev hJ hout hF hE K
  obtain ⟨v2, ev2, sv2⟩ := r2.ev hJ hout hF hE K
  obtain ⟨cs, h1, h2, h3⟩ := H K sv0 sv1 sv2
  exact .litv d (L := L) (hg.wanted hJ hF hE K) hd hA hJ.gi hop (by simp [ev0, ev1, ev2]) h1 hn h2 h3 hV
theorem sL4 (d : Nat) {o : Oper} {ty t : TypeId} {sz : Nat} {L : List TyC} (r0 : XA n l dt m D i) (r1 : XA n l dt m D i) (r2 : XA n l dt m D i) (r3 : XA n l dt m D i) (H : ∀ {b : BB} {f : FF} {w : World} {c : Colr} {v0 v1 v2 v3 : Value}, Kx dt w0 c0 CB Fs i b f w c → r0.r.T V w c v0 → r1.r.T V w c v1 → r2.r.T V w c v2 → r3.r.T V w c v3 → ∃ cs, (Instr.buildSlice ty 4 #[(0, r0.r.W v0), (1, r1.r.W v1), (2, r2.r.W v2), (3, r3.r.W v3)]).run P w = .ok (.slice (some ⟨w.heap.size, 0, none⟩) 4 4) (w.alloc (.cells cs t)) ∧ cs.size = L.length * sz ∧ (catK sz L).sat cs w c) (hn : L.length = 4 := by rfl) (hV : V d = litC sz t L := by rfl) (hi : nthL l i = some o := by rfl) (hop : o.op = .buildSlice ty 4 #[(0, r0.r.opd), (1, r1.r.opd), (2, r2.r.opd), (3, r3.r.opd)] := by rfl) (hd : o.dst = some d := by rfl) (hA : Fs.filter (aff [] i (some d)) = [] := by rfl) (hg : Gd l n dt V i o.guard := by first | exact trivial | exact ⟨rfl, _, ⟨rfl, rfl⟩, rfl⟩) : OpStep P l dt Q n a m D CB Fs V w0 c0 i := by
  intro b f w c x o' hJ hout hF hE ho K
  obtain rfl : o = o' := Option.some.inj (hi.symm.trans ho)
  obtain ⟨v0, ev0, sv0⟩ := r0.ev hJ hout hF hE K
  obtain ⟨v1, ev1, sv1⟩ := r1.ev hJ hout hF hE K
  obtain ⟨v2, ev2, sv2⟩ := r2.ev hJ hout hF hE K
  obtain ⟨v3, ev3, sv3⟩ := r3.ev hJ hout hF hE K
  obtain ⟨cs, h1, h2, h3⟩ := H K sv0 sv1 sv2 sv3
  exact .litv d (L := L) (hg.wanted hJ hF hE K) hd hA hJ.gi hop (by simp [ev0, ev1, ev2, ev3]) h1 hn h2 h3 hV
theorem sL6 (d : Nat) {o : Oper} {ty t : TypeId} {sz : Nat} {L : List TyC} (r0 : XA n l dt m D i) (r1 : XA n l dt m D i) (r2 : XA n l dt m D i) (r3 : XA n l dt m D i) (r4 : XA n l dt m D i) (r5 : XA n l dt m D i) (H : ∀ {b : BB} {f : FF} {w : World} {c : Colr} {v0 v1 v2 v3 v4 v5 : Value}, Kx dt w0 c0 CB Fs i b f w c → r0.r.T V w c v0 → r1.r.T V w c v1 → r2.r.T V w c v2 → r3.r.T V w c v3 → r4.r.T V w c v4 → r5.r.T V w c v5 → ∃ cs, (Instr.buildSlice ty 6 #[(0, r0.r.W v0), (1, r1.r.W v1), (2, r2.r.W v2), (3, r3.r.W v3), (4, r4.r.W v4), (5, r5.r.W v5)]).run P w = .ok (.slice (some ⟨w.heap.size, 0, none⟩) 6 6) (w.alloc (.cells cs t)) ∧ cs.size = L.length * sz ∧ (catK sz L).sat cs w c) (hn : L.length = 6 := by rfl) (hV : V d = litC sz t L := by rfl) (hi : nthL l i = some o := by rfl) (hop : o.op = .buildSlice ty 6 #[(0, r0.r.opd), (1, r1.r.opd), (2, r2.r.opd), (3, r3.r.opd), (4, r4.r.opd), (5, r5.r.opd)] := by rfl) (hd : o.dst = some d := by rfl) (hA : Fs.filter (aff [] i (some d)) = [] := by rfl) (hg : Gd l n dt V i o.guard := by first | exact trivial | exact ⟨rfl, _, ⟨rfl, rfl⟩, rfl⟩) : OpStep P l dt Q n a m D CB Fs V w0 c0 i := by
  intro b f w c x o' hJ hout hF hE ho K
  obtain rfl : o = o' := Option.some.inj (hi.symm.trans ho)
  obtain ⟨v0, ev0, sv0⟩ := r0.ev hJ hout hF hE K
  obtain ⟨v1, ev1, sv1⟩ := r1.ev hJ hout hF hE K
  obtain ⟨v2, ev2, sv2⟩ := r2.ev hJ hout hF hE K
  obtain ⟨v3, ev3, sv3⟩ := r3.ev hJ hout hF hE K
  obtain ⟨v4, ev4, sv4⟩ := r4.ev hJ hout hF hE K
  obtain ⟨v5, ev5, sv5⟩ := r5.ev hJ hout hF hE K
  obtain ⟨cs, h1, h2, h3⟩ := H K sv0 sv1 sv2 sv3 sv4 sv5
  exact .litv d (L := L) (hg.wanted hJ hF hE K) hd hA hJ.gi hop (by simp [ev0, ev1, ev2, ev3, ev4, ev5]) h1 hn h2 h3 hV

/-! ### boxes -/
theorem sBox (p nc : Nat) {o : Oper} {sp : Nat} {z : Array Value} {τ : TyC} {ty : TypeId} (r0 : XA n l dt m D i) (H : ∀ {b : BB} {f : FF} {w : World} {c : Colr} {v : Value}, Kx dt w0 c0 CB Fs i b f w c → r0.r.T V w c v → ∃ cs, (r0.r.W v).cells = cs ∧ τ.sat (r0.r.W v) w c ∧ cs.toList.all (fun v => !NB v) = true)
    (hi : nthL l i = some o := by rfl) (hop : o.op = .box ty r0.r.opd := by rfl) (hd : o.dst = some p := by rfl) (hF_ : Fs.filter (aff [nc] i (some p)) = [RF.new p nc ty sp z τ] := by rfl) (hCB : [nc].all (CB.contains ·) = true := by rfl) (hs : sp = i := by rfl) (hn : ([nc].contains 0 || [nc].contains 1) = false := by rfl) (hV : V p = TyC.ptr := by rfl) (hg : Gd l n dt V i o.guard := by first | exact trivial | exact ⟨rfl, _, ⟨rfl, rfl⟩, rfl⟩) : OpStep P l dt Q n a m D CB Fs V w0 c0 i := by
  intro b f w c x o' hJ hout hF hE ho K
  obtain rfl : o = o' := Option.some.inj (hi.symm.trans ho)
  obtain ⟨v0, ev0, sv0⟩ := r0.ev hJ hout hF hE K
  obtain ⟨cs, h1, h2, h3⟩ := H K sv0
  exact .box p nc sp z cs τ (hg.wanted hJ hF hE K) hd hCB hF_ hJ.gi hop ev0 h1 h2 hs hn h3 hV
theorem sAlz (p nc : Nat) {o : Oper} {sp : Nat} {z : Array Value} {τ : TyC} {ty : TypeId} {u : Value} (hz : ∀ {w : World}, (zeroValue ty).run P w = .ok u w) (hu : ∀ {w : World} {c : Colr}, τ.sat u w c)
    (hi : nthL l i = some o := by rfl) (hop : o.op = .alloc ty := by rfl) (hd : o.dst = some p := by rfl) (hF_ : Fs.filter (aff [nc] i (some p)) = [RF.new p nc ty sp z τ] := by rfl) (hCB : [nc].all (CB.contains ·) = true := by rfl) (hs : sp = i := by rfl) (hn : ([nc].contains 0 || [nc].contains 1) = false := by rfl) (hb : u.cells.toList.all (fun v => !NB v) = true := by rfl) (hV : V p = TyC.ptr := by rfl) (hg : Gd l n dt V i o.guard := by first | exact trivial | exact ⟨rfl, _, ⟨rfl, rfl⟩, rfl⟩) : OpStep P l dt Q n a m D CB Fs V w0 c0 i := by
  intro b f w c x o' hJ hout hF hE ho K
  obtain rfl : o = o' := Option.some.inj (hi.symm.trans ho)
  exact .allocz p nc sp z τ (hg.wanted hJ hF hE K) hd hCB hF_ hJ.gi hop hz rfl hu hs hn hb hV
theorem sAl (p nc : Nat) {o : Oper} {sp : Nat} {z : Array Value} {τ : TyC} {ty : TypeId} {u : Value} (hz : ∀ {w : World}, (zeroValue ty).run P w = .ok u w) (hc : u.cells = z := by rfl)
    (hi : nthL l i = some o := by rfl) (hop : o.op = .alloc ty := by rfl) (hd : o.dst = some p := by rfl) (hF_ : Fs.filter (aff [nc] i (some p)) = [RF.new p nc ty sp z τ] := by rfl) (hCB : [nc].all (CB.contains ·) = true := by rfl) (hs : dep dt sp i = true := by rfl) (hsi : (sp == i) = false := by rfl) (hn : ([nc].contains 0 || [nc].contains 1) = false := by rfl) (hb : z.toList.all (fun v => !NB v) = true := by rfl) (hV : V p = TyC.ptr := by rfl) (hg : Gd l n dt V i o.guard := by first | exact trivial | exact ⟨rfl, _, ⟨rfl, rfl⟩, rfl⟩) : OpStep P l dt Q n a m D CB Fs V w0 c0 i := by
  intro b f w c x o' hJ hout hF hE ho K
  obtain rfl : o = o' := Option.some.inj (hi.symm.trans ho)
  exact .alloc p nc sp z τ (hg.wanted hJ hF hE K) hd hCB hF_ hJ.gi hop hz hc (K.nyet sp hs) hsi hn hb hV
/-- A store that fills a box of the region. -/
theorem sStn (p nc j k : Nat) {o : Oper} {mm : Nat} {z : Array Value} {τ : TyC} {ty t : TypeId} (r1 : XA n l dt m D i) (hA : Agg P ty mm) (hs : τ.str mm) (H : ∀ {b : BB} {f : FF} {w : World} {c : Colr} {v : Value}, Kx dt w0 c0 CB Fs i b f w c → r1.r.T V w c v → τ.sat (r1.r.W v) w c := by exact fun _ h => h) (hp : dep dt i j = true ∧ decide (p < n) = true ∧ dstOf l j = some p := by exact ⟨rfl, rfl, rfl⟩) (hk : Fs[k]? = some (RF.new p nc t i z τ) := by rfl)
    (hi : nthL l i = some o := by rfl) (hop : o.op = .store ty (.tmp p) r1.r.opd := by rfl) (hd : o.dst = none := by rfl) (hz : z.size = mm := by rfl) (hF_ : Fs.filter (aff [nc] i none) = [RF.new p nc t i z τ] := by rfl) (hCB : [nc].all (CB.contains ·) = true := by rfl) (hn : ([nc].contains 0 || [nc].contains 1) = false := by rfl) (hV : V p = TyC.ptr := by rfl) (hg : Gd l n dt V i o.guard := by first | exact trivial | exact ⟨rfl, _, ⟨rfl, rfl⟩, rfl⟩) : OpStep P l dt Q n a m D CB Fs V w0 c0 i := by
  intro b f w c x o' hJ hout hF hE ho K
  obtain rfl : o = o' := Option.some.inj (hi.symm.trans ho)
  obtain ⟨v1, ev1, sv1⟩ := r1.ev hJ hout hF hE K
  obtain ⟨h1, h2, h2'⟩ := hp
  have h3' := h2'
  unfold dstOf at h3'
  split at h3'
  · rename_i oj hoj
    rw [nthL_eq] at hoj
    have h3 := (hJ.set j oj p (by simpa using hoj) h3').1 (K.done j h1)
    cases hf : f p with
    | none => exact absurd hf h3
    | some v =>
      have h4 := hJ.typ p v hf
      rw [hV] at h4
      obtain ⟨g, rfl⟩ := h4
      have he : x.eval (.tmp p) = .pointer (some ⟨g, 0, none⟩) := hF.in (by rw [hE.1]; exact of_decide_eq_true h2) hf
      obtain ⟨hcg, hbk⟩ := ((All.at K.fac k hk) g (by simp [hf, adr])).2 K.self
      obtain ⟨w2, q1, q2, q3⟩ := store_tyc (P := P) hA hs hbk hz (H K sv1) hJ.gi hcg hn
      refine .store nc [nc] rfl (hg.wanted hJ hF hE K) hd hCB hop he ev1 ⟨w2, q1, q2, ?_⟩
      rw [hF_]
      refine ⟨fun g' hg' => ?_, trivial⟩
      obtain rfl : g = g' := by simpa [hf, adr] using hg'
      exact ⟨fun _ => q3, fun hbb => by rw [bup_at] at hbb; cases hbb⟩
  · cases h3'
theorem st_now {g t n i : Nat} {τ : TyC} {F0 : RF} {b : BB} {f : FF} {w : World} {c : Colr} (h : BoxC w c g t n τ) : (RF.st i (Fact.box g t n τ) F0).P (bup b i) f w c := ⟨fun _ => h, fun hbb => (by rw [bup_at] at hbb; cases hbb)⟩
/-- A store into a box that was there. -/
theorem sSto (nc : Nat) {o : Oper} {g mm : Nat} {τ : TyC} {ty t : TypeId} {F : RF} (r0 r1 : XA n l dt m D i) (hA : Agg P ty mm) (hs : τ.str mm) (O : ∀ {b : BB} {f : FF} {w : World} {c : Colr}, Kx dt w0 c0 CB Fs i b f w c → ∃ old, Blk w g t old ∧ old.size = mm ∧ c g = nc) (H : ∀ {b : BB} {f : FF} {w : World} {c : Colr} {v : Value}, Kx dt w0 c0 CB Fs i b f w c → r1.r.T V w c v → τ.sat (r1.r.W v) w c)
    
    (hi : nthL l i = some o := by rfl) (hop : o.op = .store ty r0.r.opd r1.r.opd := by rfl) (hd : o.dst = none := by rfl) (ha : ∀ v, r0.r.W v = .pointer (some ⟨g, 0, none⟩) := by exact fun _ => rfl) (hF_ : Fs.filter (aff [nc] i none) = [F] := by rfl) (R : ∀ {b : BB} {f : FF} {w w' : World} {c : Colr}, Kx dt w0 c0 CB Fs i b f w c → BoxC w' c g t nc τ → F.P (bup b i) f w' c := by exact fun _ h => st_now h) (hCB : [nc].all (CB.contains ·) = true := by rfl) (hn : ([nc].contains 0 || [nc].contains 1) = false := by rfl) (hg : Gd l n dt V i o.guard := by first | exact trivial | exact ⟨rfl, _, ⟨rfl, rfl⟩, rfl⟩) : OpStep P l dt Q n a m D CB Fs V w0 c0 i := by
  intro b f w c x o' hJ hout hF hE ho K
  obtain rfl : o = o' := Option.some.inj (hi.symm.trans ho)
  obtain ⟨v0, ev0, sv0⟩ := r0.ev hJ hout hF hE K
  obtain ⟨v1, ev1, sv1⟩ := r1.ev hJ hout hF hE K
  obtain ⟨old, q1, q2, q3⟩ := O K
  obtain ⟨w2, p1, p2, p3⟩ := store_tyc (P := P) hA hs q1 q2 (H K sv1) hJ.gi q3 hn
  refine .store nc [nc] rfl (hg.wanted hJ hF hE K) hd hCB hop (ev0.trans (ha v0)) ev1 ⟨w2, p1, p2, ?_⟩
  rw [hF_]
  exact ⟨R K p3, trivial⟩
theorem st_later {i j : Nat} {F1 : Fact} {F0 : RF} {b : BB} {f : FF} {w : World} {c : Colr} (hb : b j = false) (hj : (j == i) = false) (h : F0.P (bup b i) f w c) : (RF.st j F1 F0).P (bup b i) f w c := ⟨fun hbb => (by rw [bup_ne hj, hb] at hbb; cases hbb), fun _ => h⟩
theorem bxs {τ : TyC} {k : Nat} {u : Value} {w : World} {c : Colr} (hs : τ.str k) (h : τ.sat u w c) : ∃ cs, u.cells = cs ∧ τ.sat u w c ∧ cs.toList.all (fun v => !NB v) = true := by
  obtain ⟨cs, rfl, _, _, h4⟩ := hs u w c h
  exact ⟨cs, rfl, h, h4⟩
theorem ldb {P : Program} {ty : TypeId} {ad : Addr} {w : World} {p : Value → Prop} (h : ∃ u, (loadVar ty ad).run P w = .ok u w ∧ p u) : ∃ ad' u, Value.pointer (some ad) = .pointer (some ad') ∧ (loadVar ty ad').run P w = .ok u w ∧ p u := by
  obtain ⟨u, h1, h2⟩ := h
  exact ⟨ad, u, rfl, h1, h2⟩
/-- The fact on a box of the region that is filled. -/
theorem nbox {p nc t sp : Nat} {z : Array Value} {τ : TyC} {b : BB} {f : FF} {w : World} {c : Colr} {g : Nat} (h : (RF.new p nc t sp z τ).P b f w c) (hf : f p = some (.pointer (some ⟨g, 0, none⟩))) (hb : b sp = true) : BoxC w c g t nc τ := (h g (by simp [hf, adr])).1 hb
/-- The load of a box of the region. -/
theorem sLn (d p : Nat) {o : Oper} {j k nc sp mm : Nat} {z : Array Value} {τ : TyC} {ty t : TypeId} (hp : dep dt i j = true ∧ decide (p < n) = true ∧ dstOf l j = some p) (hk : Fs[k]? = some (RF.new p nc t sp z τ)) (hsp : dep dt i sp = true) (hA : Agg P ty mm) (hs : τ.str mm) (hi : nthL l i = some o := by rfl) (hop : o.op = .load ty (.tmp p) := by rfl) (hd : o.dst = some d := by rfl) (hA' : Fs.filter (aff [] i (some d)) = [] := by rfl) (hV : V p = TyC.ptr := by rfl) (hV' : V d = τ := by rfl) (hg : Gd l n dt V i o.guard := by first | exact trivial | exact ⟨rfl, _, ⟨rfl, rfl⟩, rfl⟩) : OpStep P l dt Q n a m D CB Fs V w0 c0 i := by
  intro b f w c x o' hJ hout hF hE ho K
  obtain rfl : o = o' := Option.some.inj (hi.symm.trans ho)
  obtain ⟨h1, h2, h2'⟩ := hp
  have h3' := h2'
  unfold dstOf at h3'
  split at h3'
  · rename_i oj hoj
    rw [nthL_eq] at hoj
    have h3 := (hJ.set j oj p (by simpa using hoj) h3').1 (K.done j h1)
    cases hf : f p with
    | none => exact absurd hf h3
    | some v =>
      have h4 := hJ.typ p v hf
      rw [hV] at h4
      obtain ⟨g, rfl⟩ := h4
      have he : x.eval (.tmp p) = .pointer (some ⟨g, 0, none⟩) := hF.in (by rw [hE.1]; exact of_decide_eq_true h2) hf
      obtain ⟨u, q1, q2⟩ := BoxC.load (nbox (All.at K.fac k hk) hf (K.done sp hsp)) hA hs
      exact .pure d (hg.wanted hJ hF hE K) hd (by rw [hA']; trivial) hJ.gi (ex_load hop he q1) (by rw [hV']; exact q2)
  · cases h3'
/-- An append to a literal. -/
theorem sAp (d : Nat) {o : Oper} {sz mm : Nat} {t e : TypeId} {inf : TypeInfo} {z : Value} {L : List TyC} {τ : TyC} (r0 r1 : XA n l dt m D i) (ht : P.underlying t = some (.slice e)) (hi2 : P.info? e = some inf) (hz : inf.zero = some z) (hsz : inf.size = sz) (H0 : ∀ {b : BB} {f : FF} {w : World} {c : Colr} {v : Value}, Kx dt w0 c0 CB Fs i b f w c → r0.r.T V w c v → (litC sz e L).sat (r0.r.W v) w c) (H1 : ∀ {b : BB} {f : FF} {w : World} {c : Colr} {v : Value}, Kx dt w0 c0 CB Fs i b f w c → r1.r.T V w c v → (litC sz e [τ]).sat (r1.r.W v) w c) (hm : L.length = mm) (hfit : Builtin.nextslicecap (mm + 1) mm * inf.bytes ≤ 281474976710656) (hL : mm ≤ 1000000)
    (hi : nthL l i = some o := by rfl) (hop : o.op = .call { callee := .builtin .append, args := #[r0.r.opd, r1.r.opd], argTypes := #[t, t] } := by rfl) (hd : o.dst = some d := by rfl) (hA : Fs.filter (aff [] i (some d)) = [] := by rfl) (hV : V d = seqC sz (L ++ [τ]) := by rfl) (hg : Gd l n dt V i o.guard := by first | exact trivial | exact ⟨rfl, _, ⟨rfl, rfl⟩, rfl⟩) : OpStep P l dt Q n a m D CB Fs V w0 c0 i := by
  intro b f w c x o' hJ hout hF hE ho K
  obtain rfl : o = o' := Option.some.inj (hi.symm.trans ho)
  obtain ⟨v0, ev0, sv0⟩ := r0.ev hJ hout hF hE K
  obtain ⟨v1, ev1, sv1⟩ := r1.ev hJ hout hF hE K
  exact .app1 d (L := L) (τ := τ) (sz := sz) (m := mm) (hg.wanted hJ hF hE K) hd hA hJ.gi hop ev0 ev1 ht hi2 hz hsz (H0 K sv0) (H1 K sv1) hm hfit hL hV
/-- An operation that yields a known value: own proof. -/
theorem sVal (d : Nat) {o : Oper} {u : Value} (r0 : XA n l dt m D i) (L : ∀ {b : BB} {f : FF} {w : World} {c : Colr} {x : Act} {v : Value}, Kx dt w0 c0 CB Fs i b f w c → r0.r.T V w c v → x.eval r0.r.opd = r0.r.W v → (execOp x.eval o).run P w = .ok (.value u) w) (hi : nthL l i = some o := by rfl) (hd : o.dst = some d := by rfl) (hA : Fs.filter (aff [] i (some d)) = [] := by rfl) (hV : V d = TyC.eq u := by rfl) (hg : Gd l n dt V i o.guard := by first | exact trivial | exact ⟨rfl, _, ⟨rfl, rfl⟩, rfl⟩) : OpStep P l dt Q n a m D CB Fs V w0 c0 i := by
  intro b f w c x o' hJ hout hF hE ho K
  obtain rfl : o = o' := Option.some.inj (hi.symm.trans ho)
  obtain ⟨v0, ev0, sv0⟩ := r0.ev hJ hout hF hE K
  exact .pure d (hg.wanted hJ hF hE K) hd (by rw [hA]; trivial) hJ.gi (L K sv0 ev0) (by rw [hV]; rfl)
theorem sVal2 (d : Nat) {o : Oper} {u : Value} (r0 r1 : XA n l dt m D i) (L : ∀ {b : BB} {f : FF} {w : World} {c : Colr} {x : Act} {v v' : Value}, Kx dt w0 c0 CB Fs i b f w c → r0.r.T V w c v → r1.r.T V w c v' → x.eval r0.r.opd = r0.r.W v → x.eval r1.r.opd = r1.r.W v' → (execOp x.eval o).run P w = .ok (.value u) w) (hi : nthL l i = some o := by rfl) (hd : o.dst = some d := by rfl) (hA : Fs.filter (aff [] i (some d)) = [] := by rfl) (hV : V d = TyC.eq u := by rfl) (hg : Gd l n dt V i o.guard := by first | exact trivial | exact ⟨rfl, _, ⟨rfl, rfl⟩, rfl⟩) : OpStep P l dt Q n a m D CB Fs V w0 c0 i := by
  intro b f w c x o' hJ hout hF hE ho K
  obtain rfl : o = o' := Option.some.inj (hi.symm.trans ho)
  obtain ⟨v0, ev0, sv0⟩ := r0.ev hJ hout hF hE K
  obtain ⟨v1, ev1, sv1⟩ := r1.ev hJ hout hF hE K
  exact .pure d (hg.wanted hJ hF hE K) hd (by rw [hA]; trivial) hJ.gi (L K sv0 sv1 ev0 ev1) (by rw [hV]; rfl)

/-! ### extracts -/
theorem ex10 {τ : TyC} {u v : Value} {w : World} {c : Colr} (h : (τ.tup1 u).sat v w c) : ∃ vs x, v = .tuple vs ∧ vs[0]? = some x ∧ τ.sat x w c := by
  obtain ⟨x, rfl, h⟩ := h; exact ⟨_, x, rfl, rfl, h⟩
theorem ex11 {τ : TyC} {u v : Value} {w : World} {c : Colr} (h : (τ.tup1 u).sat v w c) : ∃ vs x, v = .tuple vs ∧ vs[1]? = some x ∧ (TyC.eq u).sat x w c := by
  obtain ⟨x, rfl, h⟩ := h; exact ⟨_, _, rfl, rfl, rfl⟩
theorem ex20 {τ σ : TyC} {u v : Value} {w : World} {c : Colr} (h : (τ.tup2 σ u).sat v w c) : ∃ vs x, v = .tuple vs ∧ vs[0]? = some x ∧ τ.sat x w c := by
  obtain ⟨x, y, rfl, h, h'⟩ := h; exact ⟨_, _, rfl, rfl, h⟩
theorem ex21 {τ σ : TyC} {u v : Value} {w : World} {c : Colr} (h : (τ.tup2 σ u).sat v w c) : ∃ vs x, v = .tuple vs ∧ vs[1]? = some x ∧ σ.sat x w c := by
  obtain ⟨x, y, rfl, h, h'⟩ := h; exact ⟨_, _, rfl, rfl, h'⟩
theorem ex22 {τ σ : TyC} {u v : Value} {w : World} {c : Colr} (h : (τ.tup2 σ u).sat v w c) : ∃ vs x, v = .tuple vs ∧ vs[2]? = some x ∧ (TyC.eq u).sat x w c := by
  obtain ⟨x, y, rfl, h, h'⟩ := h; exact ⟨_, _, rfl, rfl, rfl⟩
theorem exp0 {τ σ : TyC} {v : Value} {w : World} {c : Colr} (h : (τ.pair σ).sat v w c) : ∃ vs x, v = .tuple vs ∧ vs[0]? = some x ∧ τ.sat x w c := by
  obtain ⟨x, y, rfl, h, h'⟩ := h; exact ⟨_, _, rfl, rfl, h⟩
theorem exp1 {τ σ : TyC} {v : Value} {w : World} {c : Colr} (h : (τ.pair σ).sat v w c) : ∃ vs x, v = .tuple vs ∧ vs[1]? = some x ∧ σ.sat x w c := by
  obtain ⟨x, y, rfl, h, h'⟩ := h; exact ⟨_, _, rfl, rfl, h'⟩
theorem exe {vs : Array Value} {k : Nat} {x v : Value} {w : World} {c : Colr} (hk : vs[k]? = some x) (h : (TyC.eq (.tuple vs)).sat v w c) : ∃ vs' x', v = .tuple vs' ∧ vs'[k]? = some x' ∧ (TyC.eq x).sat x' w c := ⟨vs, x, h, hk, rfl⟩
/-! ### behind a region -/
def nthR : List RF → Nat → RF
  | [], _ => .s Fact.tru
  | F :: _, 0 => F
  | _ :: L, k + 1 => nthR L k
def pickR : List Nat → List RF → List RF
  | [], _ => []
  | k :: ks, L => .s (nthR L k).fin :: pickR ks L
theorem All.nth {b : BB} {f : FF} {w : World} {c : Colr} : ∀ {L : List RF} (k : Nat), All L b f w c → (nthR L k).P b f w c
  | [], _, _ => trivial
  | _ :: _, 0, h => h.1
  | _ :: L, k + 1, h => All.nth k h.2
theorem nth_ops {N : Nat} : ∀ {L : List RF} (k : Nat), (L.all fun F => F.ops.all fun i => decide (i < N)) = true → ∀ i, (nthR L k).ops.contains i = true → i < N
  | [], _, _, i, h => by simp [nthR, RF.ops] at h
  | F :: L, 0, hL, i, h => by
    rw [List.all_cons, Bool.and_eq_true] at hL
    have := List.all_eq_true.1 hL.1 i (by simpa [nthR] using h)
    simpa using this
  | F :: L, k + 1, hL, i, h => by
    rw [List.all_cons, Bool.and_eq_true] at hL
    exact nth_ops k hL.2 i h
theorem All.pick {N : Nat} {b b' : BB} {f f' : FF} {w : World} {c : Colr} {L : List RF} (h : All L b f w c) (hb : ∀ i, i < N → b i = true) (hN : (L.all fun F => F.ops.all fun i => decide (i < N)) = true) : ∀ ks : List Nat, All (pickR ks L) b' f' w c
  | [] => trivial
  | k :: ks => ⟨RF.to_fin _ (All.nth k h) (fun i hi => hb i (nth_ops k hN i hi)), All.pick h hb hN ks⟩
theorem All.pk {N : Nat} {b : BB} {f : FF} {w : World} {c : Colr} {L : List RF} (h : All L b f w c) (hb : ∀ i, i < N → b i = true) (hN : (L.all fun F => F.ops.all fun i => decide (i < N)) = true) (ks : List Nat) : All (pickR ks L) (fun _ => false) (fun _ => none) w c := h.pick hb hN ks
theorem All.cb {g t n : Nat} {τ : TyC} {L : List RF} {b : BB} {f : FF} {w : World} {c : Colr} (h : BoxC w c g t n τ) (hL : All L b f w c) : All (.s (Fact.box g t n τ) :: L) b f w c := ⟨h, hL⟩
theorem All.cv {v : Value} {τ : TyC} {L : List RF} {b : BB} {f : FF} {w : World} {c : Colr} (h : τ.sat v w c) (hL : All L b f w c) : All (.s (Fact.val τ v) :: L) b f w c := ⟨h, hL⟩
theorem All.stat {F : Fact} {L : List RF} {b b' : BB} {f f' : FF} {w : World} {c : Colr} (h : All [.s F] b f w c) : All [.s F] b' f' w c := h
def AllK (f : FF) (n : Nat) : List (Nat × Value) → Prop
  | [] => True
  | p :: L => (f p.1 = some p.2 ∧ p.1 < n) ∧ AllK f n L
theorem kn {f : FF} {n : Nat} : AllK f n [] := trivial
theorem ck {f : FF} {n t : Nat} {v : Value} {L : List (Nat × Value)} (h : f t = some v) (hK : AllK f n L) (ht : decide (t < n) = true := by rfl) : AllK f n ((t, v) :: L) := ⟨⟨h, of_decide_eq_true ht⟩, hK⟩
theorem kv {f : FF} {V : Nat → TyC} {d : Nat} {u : Value} {w : World} {c : Colr} (h : ∃ v, f d = some v ∧ (V d).sat v w c) (hV : V d = TyC.eq u) : f d = some u := by
  obtain ⟨v, h1, h2⟩ := h
  rw [hV] at h2
  rw [h1, (show v = u from h2)]
theorem kp {f : FF} {V : Nat → TyC} {d : Nat} {w : World} {c : Colr} (h : ∃ v, f d = some v ∧ (V d).sat v w c) (hV : V d = TyC.ptr) : ∃ g, f d = some (.pointer (some ⟨g, 0, none⟩)) := by
  obtain ⟨v, h1, h2⟩ := h
  rw [hV] at h2
  obtain ⟨g, rfl⟩ := h2
  exact ⟨g, h1⟩
def upm (KL : List (Nat × Value)) (D : List Nat) (m : Nat → Option Value) (t : Nat) : Option Value := match KL.lookup t with
  | some v => some v
  | none => if D.contains t then none else m t
theorem AllK.look {f : FF} {n : Nat} : ∀ {L : List (Nat × Value)}, AllK f n L → ∀ {t : Nat} {v : Value}, L.lookup t = some v → f t = some v ∧ t < n
  | (t', v') :: L, h, t, v, hl => by
    rw [List.lookup_cons] at hl
    split at hl
    · rename_i he
      have : t = t' := by simpa using he
      subst this
      injection hl with hl
      subst hl
      exact h.1
    · exact AllK.look h.2 hl
  | [], _, t, v, hl => by simp at hl
theorem Ev.up {n : Nat} {a x : Act} {m : Nat → Option Value} {D : List Nat} {f : FF} {KL : List (Nat × Value)} (hE : Ev n a m) (hF : Fr a x f) (hout : ∀ d, D.contains d = false → f d = none) (hK : AllK f n KL) : Ev n x (upm KL D m) := by
  refine ⟨hF.size.trans hE.1, hF.defers.trans hE.2.1, fun t v h => ?_⟩
  unfold upm at h
  split at h
  · rename_i u hu
    injection h with h
    subst h
    obtain ⟨h1, h2⟩ := AllK.look hK hu
    exact ⟨h2, hF.in (by rw [hE.1]; exact h2) h1⟩
  · split at h
    · cases h
    · rename_i hd
      obtain ⟨h1, h2⟩ := hE.2.2 t v h
      exact ⟨h1, hF.out (by rw [hE.1]; exact h1) (hout t (by simpa using hd)) h2⟩
def mof (KL : List (Nat × Value)) (t : Nat) : Option Value := KL.lookup t
def subm (m : Nat → Option Value) : List (Nat × Value) → Prop
  | [] => True
  | p :: L => m p.1 = some p.2 ∧ subm m L
theorem subm.look {m : Nat → Option Value} : ∀ {L : List (Nat × Value)}, subm m L → ∀ {t : Nat} {v : Value}, L.lookup t = some v → m t = some v
  | (t', v') :: L, h, t, v, hl => by
    rw [List.lookup_cons] at hl
    split at hl
    · rename_i he
      have : t = t' := by simpa using he
      subst this
      injection hl with hl
      subst hl
      exact h.1
    · exact subm.look h.2 hl
  | [], _, t, v, hl => by simp at hl
/-- Some of the slots. -/
theorem Ev.sub {n : Nat} {a : Act} {m : Nat → Option Value} (hE : Ev n a m) (KL : List (Nat × Value)) (h : subm m KL) : Ev n a (mof KL) := ⟨hE.1, hE.2.1, fun t v ht => hE.2.2 t v (h.look ht)⟩
/-- One slot's value, said otherwise. -/
theorem Ev.re {n : Nat} {a : Act} {m : Nat → Option Value} (hE : Ev n a m) (t : Nat) {v v' : Value} (ht : m t = some v) (e : v = v') : Ev n a (fun k => if k == t then some v' else m k) := ⟨hE.1, hE.2.1, fun k u hk => by
  by_cases h : k = t
  · subst h
    simp at hk
    subst hk e
    exact hE.2.2 k v ht
  · have : (k == t) = false := by simpa using h
    simp [this] at hk
    exact hE.2.2 k u hk⟩
def setR : List RF → Nat → RF → List RF
  | [], _, _ => []
  | _ :: L, 0, G => G :: L
  | F :: L, k + 1, G => F :: setR L k G
theorem All.put {G : Fact} {b : BB} {f : FF} {w : World} {c : Colr} : ∀ {L : List RF} (k : Nat), All L b f w c → G.P w c → All (setR L k (.s G)) b f w c
  | [], _, _, _ => trivial
  | _ :: _, 0, h, hG => ⟨hG, h.2⟩
  | _ :: L, k + 1, h, hG => ⟨h.1, All.put k h.2 hG⟩
theorem enter_st {f : Nat} {fn : Func} {cd : Code} {args : Array Value} {w : World} {R : Ending → World → Prop} {n : Nat} (hf : P.funcs[f]? = some fn) (hb : fn.body = some cd) (hn : fn.ntmps = n) (KL : List (Nat × Value)) (hK : KL.all (fun p => decide (p.1 < args.size)) = true) (hA : subm (fun t => args[t]?) KL) (hs : args.size ≤ n)
    (h : ∀ a : Act, Ev n a (mof KL) → cd.wp P (bodyPost P fn R) a w) : Calls P f args w R := by
  refine enter_wp hf hb hn ?_
  intro a ha
  refine h a ⟨enter_size ha (by omega), enter_defers ha, fun t v ht => ?_⟩
  have h1 := subm.look hA ht
  have h2 : t < args.size := (Array.getElem?_eq_some_iff.1 h1).1
  exact ⟨by omega, enter_ev ha h1⟩

abbrev b0 : BB := fun _ => false
abbrev f0 : FF := fun _ => none
def stg : List RF → Nat → Nat → Fact → List RF
  | [], _, _, _ => []
  | F :: L, 0, i, G => .st i G F :: L
  | F :: L, k + 1, i, G => F :: stg L k i G
theorem All.stg {w : World} {c : Colr} : ∀ {L : List RF} (k i : Nat) (G : Fact), All L b0 f0 w c → All (stg L k i G) b0 f0 w c
  | [], _, _, _, _ => trivial
  | _ :: _, 0, _, _, h => ⟨⟨fun hb => (by cases hb), fun _ => h.1⟩, h.2⟩
  | _ :: L, k + 1, i, G, h => ⟨h.1, All.stg k i G h.2⟩
theorem All.cn {L : List RF} {w : World} {c : Colr} (p n : Nat) (t : TypeId) (s : Nat) (z : Array Value) (τ : TyC) (h : All L b0 f0 w c) : All (.new p n t s z τ :: L) b0 f0 w c := ⟨RF.new_none, h⟩
theorem All.box {L : List RF} {b : BB} {f : FF} {w : World} {c : Colr} {g t n : Nat} {τ : TyC} (h : All L b f w c) (k : Nat) (hk : nthR L k = .s (Fact.box g t n τ)) : BoxC w c g t n τ := by
  have := All.nth k h
  rw [hk] at this
  exact this
theorem All.val {L : List RF} {b : BB} {f : FF} {w : World} {c : Colr} {τ : TyC} {v : Value} (h : All L b f w c) (k : Nat) (hk : nthR L k = .s (Fact.val τ v)) : τ.sat v w c := by
  have := All.nth k h
  rw [hk] at this
  exact this
/-- A staged box, behind its store and ahead of it. -/
theorem All.sb1 {L : List RF} {b : BB} {f : FF} {w : World} {c : Colr} {g t n i : Nat} {τ : TyC} {F0 : RF} (h : All L b f w c) (k : Nat) (hk : nthR L k = .st i (Fact.box g t n τ) F0) (hb : b i = true) : BoxC w c g t n τ := by
  have := All.nth k h
  rw [hk] at this
  exact this.1 hb
theorem All.sb0 {L : List RF} {b : BB} {f : FF} {w : World} {c : Colr} {g t n i : Nat} {τ : TyC} {F1 : Fact} (h : All L b f w c) (k : Nat) (hk : nthR L k = .st i F1 (.s (Fact.box g t n τ))) (hb : b i = false) : BoxC w c g t n τ := by
  have := All.nth k h
  rw [hk] at this
  exact this.2 hb
theorem All.nb {L : List RF} {b : BB} {f : FF} {w : World} {c : Colr} {g t n p sp : Nat} {z : Array Value} {τ : TyC} (h : All L b f w c) (k : Nat) (hk : nthR L k = .new p n t sp z τ) (hf : f p = some (.pointer (some ⟨g, 0, none⟩))) (hb : b sp = true) : BoxC w c g t n τ := by
  have := All.nth k h
  rw [hk] at this
  exact nbox this hf hb

theorem sPkt (d : Nat) {o : Oper} (r0 r1 : XA n l dt m D i) {z : Operand} (hz : ∀ {w : World} {c : Colr} {v : Value}, r0.r.T V w c v → r0.r.W v = .bool true := by first | exact fun h => h | exact fun _ => rfl) (hi : nthL l i = some o := by rfl) (hop : o.op = .pick r0.r.opd r1.r.opd z := by rfl) (hd : o.dst = some d := by rfl) (hA : Fs.filter (aff [] i (some d)) = [] := by rfl) (hT : ∀ w c v, r1.r.T V w c v → (V d).sat (r1.r.W v) w c := by first | exact fun _ _ _ h => h | exact fun _ _ _ _ => rfl) (hg : Gd l n dt V i o.guard := by first | exact trivial | exact ⟨rfl, _, ⟨rfl, rfl⟩, rfl⟩) : OpStep P l dt Q n a m D CB Fs V w0 c0 i := by
  intro b f w c x o' hJ hout hF hE ho K
  obtain rfl : o = o' := Option.some.inj (hi.symm.trans ho)
  obtain ⟨v0, ev0, sv0⟩ := r0.ev hJ hout hF hE K
  obtain ⟨v1, ev1, sv1⟩ := r1.ev hJ hout hF hE K
  exact .pure d (hg.wanted hJ hF hE K) hd (by rw [hA]; trivial) hJ.gi (ex_pick (b := true) hop (ev0.trans (hz sv0)) ev1) (hT w c v1 sv1)
theorem sPkf (d : Nat) {o : Oper} (r0 r1 : XA n l dt m D i) {z : Operand} (hz : ∀ {w : World} {c : Colr} {v : Value}, r0.r.T V w c v → r0.r.W v = .bool false := by first | exact fun h => h | exact fun _ => rfl) (hi : nthL l i = some o := by rfl) (hop : o.op = .pick r0.r.opd z r1.r.opd := by rfl) (hd : o.dst = some d := by rfl) (hA : Fs.filter (aff [] i (some d)) = [] := by rfl) (hT : ∀ w c v, r1.r.T V w c v → (V d).sat (r1.r.W v) w c := by first | exact fun _ _ _ h => h | exact fun _ _ _ _ => rfl) (hg : Gd l n dt V i o.guard := by first | exact trivial | exact ⟨rfl, _, ⟨rfl, rfl⟩, rfl⟩) : OpStep P l dt Q n a m D CB Fs V w0 c0 i := by
  intro b f w c x o' hJ hout hF hE ho K
  obtain rfl : o = o' := Option.some.inj (hi.symm.trans ho)
  obtain ⟨v0, ev0, sv0⟩ := r0.ev hJ hout hF hE K
  obtain ⟨v1, ev1, sv1⟩ := r1.ev hJ hout hF hE K
  exact .pure d (hg.wanted hJ hF hE K) hd (by rw [hA]; trivial) hJ.gi (ex_pick (b := false) hop (ev0.trans (hz sv0)) ev1) (hT w c v1 sv1)
theorem sFv (d : Nat) {o : Oper} {ty : TypeId} {k : Nat} {u z : Value} (r0 : XA n l dt m D i) (L : ∀ {w : World}, (Instr.fieldAt ty z k).run P w = .ok u w) (hz : ∀ {w : World} {c : Colr} {v : Value}, r0.r.T V w c v → r0.r.W v = z := by exact fun h => h) (hV : V d = TyC.eq u := by rfl) (hi : nthL l i = some o := by rfl) (hop : o.op = .fieldAddr ty r0.r.opd k := by rfl) (hd : o.dst = some d := by rfl) (hA : Fs.filter (aff [] i (some d)) = [] := by rfl) (hg : Gd l n dt V i o.guard := by first | exact trivial | exact ⟨rfl, _, ⟨rfl, rfl⟩, rfl⟩) : OpStep P l dt Q n a m D CB Fs V w0 c0 i := by
  intro b f w c x o' hJ hout hF hE ho K
  obtain rfl : o = o' := Option.some.inj (hi.symm.trans ho)
  obtain ⟨v0, ev0, sv0⟩ := r0.ev hJ hout hF hE K
  exact .pure d (hg.wanted hJ hF hE K) hd (by rw [hA]; trivial) hJ.gi (ex_field hop (ev0.trans (hz sv0)) L) (by rw [hV]; rfl)
theorem sSlen (d : Nat) {o : Oper} {t e : TypeId} {A : Option Addr} {k cp : Nat} (r0 : XA n l dt m D i) (ht : P.underlying t = some (.slice e)) (hz : ∀ {b : BB} {f : FF} {w : World} {c : Colr} {v : Value}, Kx dt w0 c0 CB Fs i b f w c → r0.r.T V w c v → r0.r.W v = .slice A k cp) (hi : nthL l i = some o := by rfl) (hop : o.op = .call { callee := .builtin .len, args := #[r0.r.opd], argTypes := #[t] } := by rfl) (hd : o.dst = some d := by rfl) (hA : Fs.filter (aff [] i (some d)) = [] := by rfl) (hV : V d = TyC.eq (.int .i64 k) := by rfl) (hg : Gd l n dt V i o.guard := by first | exact trivial | exact ⟨rfl, _, ⟨rfl, rfl⟩, rfl⟩) : OpStep P l dt Q n a m D CB Fs V w0 c0 i := by
  intro b f w c x o' hJ hout hF hE ho K
  obtain rfl : o = o' := Option.some.inj (hi.symm.trans ho)
  obtain ⟨v0, ev0, sv0⟩ := r0.ev hJ hout hF hE K
  exact .pure d (hg.wanted hJ hF hE K) hd (by rw [hA]; trivial) hJ.gi (ex_len hop ht (ev0.trans (hz K sv0))) (by rw [hV]; rfl)
theorem sQlen (d : Nat) {o : Oper} {sz : Nat} {t e : TypeId} {L : List TyC} (r0 : XA n l dt m D i) (ht : P.underlying t = some (.slice e)) (hz : ∀ {b : BB} {f : FF} {w : World} {c : Colr} {v : Value}, Kx dt w0 c0 CB Fs i b f w c → r0.r.T V w c v → (seqC sz L).sat (r0.r.W v) w c) (hi : nthL l i = some o := by rfl) (hop : o.op = .call { callee := .builtin .len, args := #[r0.r.opd], argTypes := #[t] } := by rfl) (hd : o.dst = some d := by rfl) (hA : Fs.filter (aff [] i (some d)) = [] := by rfl) (hV : V d = TyC.eq (.int .i64 L.length) := by rfl) (hg : Gd l n dt V i o.guard := by first | exact trivial | exact ⟨rfl, _, ⟨rfl, rfl⟩, rfl⟩) : OpStep P l dt Q n a m D CB Fs V w0 c0 i := by
  intro b f w c x o' hJ hout hF hE ho K
  obtain rfl : o = o' := Option.some.inj (hi.symm.trans ho)
  obtain ⟨v0, ev0, sv0⟩ := r0.ev hJ hout hF hE K
  exact .pure d (hg.wanted hJ hF hE K) hd (by rw [hA]; trivial) hJ.gi (seq_len hop ht ev0 (hz K sv0)) (by rw [hV]; rfl)
theorem run_not {P : Program} {w : World} (b : Bool) : (Op.unary .not (.bool b)).run P w = .ok (.bool (!b)) w := by
  simp [Op.unary, go_sem]
theorem sVi (d : Nat) {o : Oper} (r0 : XA n l dt m D i) (r1 : XA n l dt m D i) {ty : TypeId} {u z z' : Value} (hz : ∀ {w : World} {c : Colr} {v v' : Value}, r0.r.T V w c v → r1.r.T V w c v' → r0.r.W v = z ∧ r1.r.W v' = z') (L : ∀ {w : World}, (Instr.index ty z z').run P w = .ok u w) (hV : V d = TyC.eq u := by rfl) (hi : nthL l i = some o := by rfl) (hop : o.op = .index ty r0.r.opd r1.r.opd := by rfl) (hd : o.dst = some d := by rfl) (hA : Fs.filter (aff [] i (some d)) = [] := by rfl) (hg : Gd l n dt V i o.guard := by first | exact trivial | exact ⟨rfl, _, ⟨rfl, rfl⟩, rfl⟩) : OpStep P l dt Q n a m D CB Fs V w0 c0 i := by
  intro b f w c x o' hJ hout hF hE ho K
  obtain rfl : o = o' := Option.some.inj (hi.symm.trans ho)
  obtain ⟨v0, ev0, sv0⟩ := r0.ev hJ hout hF hE K
  obtain ⟨v1, ev1, sv1⟩ := r1.ev hJ hout hF hE K
  exact .pure d (hg.wanted hJ hF hE K) hd (by rw [hA]; trivial) hJ.gi (ex_index' hop (ev0.trans (hz sv0 sv1).1) (ev1.trans (hz sv0 sv1).2) L) (by rw [hV]; rfl)
theorem sSlt (d : Nat) {o : Oper} (r0 : XA n l dt m D i) (r1 : XA n l dt m D i) {ty : TypeId} {u z z' : Value} (hz : ∀ {w : World} {c : Colr} {v v' : Value}, r0.r.T V w c v → r1.r.T V w c v' → r0.r.W v = z ∧ r1.r.W v' = z') (L : ∀ {w : World}, (Instr.slice ty z none (some z') none).run P w = .ok u w) (ht : P.underlying ty = some .string) (hV : V d = TyC.eq u := by rfl) (hi : nthL l i = some o := by rfl) (hop : o.op = .slice ty r0.r.opd none (some r1.r.opd) none := by rfl) (hd : o.dst = some d := by rfl) (hA : Fs.filter (aff [] i (some d)) = [] := by rfl) (hg : Gd l n dt V i o.guard := by first | exact trivial | exact ⟨rfl, _, ⟨rfl, rfl⟩, rfl⟩) : OpStep P l dt Q n a m D CB Fs V w0 c0 i := by
  intro b f w c x o' hJ hout hF hE ho K
  obtain rfl : o = o' := Option.some.inj (hi.symm.trans ho)
  obtain ⟨v0, ev0, sv0⟩ := r0.ev hJ hout hF hE K
  obtain ⟨v1, ev1, sv1⟩ := r1.ev hJ hout hF hE K
  exact .pure d (hg.wanted hJ hF hE K) hd (by rw [hA]; trivial) hJ.gi (ex_slice_to hop (ev0.trans (hz sv0 sv1).1) (ev1.trans (hz sv0 sv1).2) L ht) (by rw [hV]; rfl)
theorem sSlf (d : Nat) {o : Oper} (r0 : XA n l dt m D i) (r1 : XA n l dt m D i) {ty : TypeId} {u z z' : Value} (hz : ∀ {w : World} {c : Colr} {v v' : Value}, r0.r.T V w c v → r1.r.T V w c v' → r0.r.W v = z ∧ r1.r.W v' = z') (L : ∀ {w : World}, (Instr.slice ty z (some z') none none).run P w = .ok u w) (ht : P.underlying ty = some .string) (hV : V d = TyC.eq u := by rfl) (hi : nthL l i = some o := by rfl) (hop : o.op = .slice ty r0.r.opd (some r1.r.opd) none none := by rfl) (hd : o.dst = some d := by rfl) (hA : Fs.filter (aff [] i (some d)) = [] := by rfl) (hg : Gd l n dt V i o.guard := by first | exact trivial | exact ⟨rfl, _, ⟨rfl, rfl⟩, rfl⟩) : OpStep P l dt Q n a m D CB Fs V w0 c0 i := by
  intro b f w c x o' hJ hout hF hE ho K
  obtain rfl : o = o' := Option.some.inj (hi.symm.trans ho)
  obtain ⟨v0, ev0, sv0⟩ := r0.ev hJ hout hF hE K
  obtain ⟨v1, ev1, sv1⟩ := r1.ev hJ hout hF hE K
  exact .pure d (hg.wanted hJ hF hE K) hd (by rw [hA]; trivial) hJ.gi (ex_slice_from hop (ev0.trans (hz sv0 sv1).1) (ev1.trans (hz sv0 sv1).2) L ht) (by rw [hV]; rfl)

theorem sStrlen {o : Oper} (d : Nat) {t : TypeId} {s : ByteArray} {k : Nat} (r0 : XA n l dt m D i) (ht : P.underlying t = some .string) (hs : s.size = k) (hz : ∀ {b : BB} {f : FF} {w : World} {c : Colr} {v : Value}, Kx dt w0 c0 CB Fs i b f w c → r0.r.T V w c v → r0.r.W v = .string s) (hi : nthL l i = some o := by rfl) (hop : o.op = .call { callee := .builtin .len, args := #[r0.r.opd], argTypes := #[t] } := by rfl) (hd : o.dst = some d := by rfl) (hA : Fs.filter (aff [] i (some d)) = [] := by rfl) (hV : V d = TyC.eq (.int .i64 k) := by rfl) (hg : Gd l n dt V i o.guard := by first | exact trivial | exact ⟨rfl, _, ⟨rfl, rfl⟩, rfl⟩) : OpStep P l dt Q n a m D CB Fs V w0 c0 i := by
  intro b f w c x o' hJ hout hF hE ho K
  obtain rfl : o = o' := Option.some.inj (hi.symm.trans ho)
  obtain ⟨v0, ev0, sv0⟩ := r0.ev hJ hout hF hE K
  exact .pure d (hg.wanted hJ hF hE K) hd (by rw [hA]; trivial) hJ.gi (ex_len_s hop ht (ev0.trans (hz K sv0))) (by rw [hV, ← hs]; rfl)

/-- The load of a box; of a field of a box whose address the region has made. -/
theorem sLb (d : Nat) {o : Oper} {g t nc mm : Nat} {τ : TyC} {ty : TypeId} (r0 : XA n l dt m D i) (k : Nat) (hA : Agg P ty mm) (hs : τ.str mm) (hi : nthL l i = some o := by rfl) (hop : o.op = .load ty r0.r.opd := by rfl) (hd : o.dst = some d := by rfl) (hk : nthR Fs k = .s (Fact.box g t nc τ) := by rfl) (ha : ∀ v, r0.r.W v = .pointer (some ⟨g, 0, none⟩) := by exact fun _ => rfl) (hA' : Fs.filter (aff [] i (some d)) = [] := by rfl) (hV : V d = τ := by rfl) (hg : Gd l n dt V i o.guard := by first | exact trivial | exact ⟨rfl, _, ⟨rfl, rfl⟩, rfl⟩) : OpStep P l dt Q n a m D CB Fs V w0 c0 i := by
  intro b f w c x o' hJ hout hF hE ho K
  obtain rfl : o = o' := Option.some.inj (hi.symm.trans ho)
  obtain ⟨v0, ev0, sv0⟩ := r0.ev hJ hout hF hE K
  obtain ⟨u, h1, h2⟩ := BoxC.load (K.fac.box k hk) hA hs
  exact .pure d (hg.wanted hJ hF hE K) hd (by rw [hA']; trivial) hJ.gi (ex_load hop (ev0.trans (ha v0)) h1) (by rw [hV]; exact h2)
theorem sLf (d : Nat) {o : Oper} {ad : Addr} {ty : TypeId} (r0 : XA n l dt m D i) (L : ∀ {b : BB} {f : FF} {w : World} {c : Colr}, Kx dt w0 c0 CB Fs i b f w c → ∃ u, (loadVar ty ad).run P w = .ok u w ∧ (V d).sat u w c) (hi : nthL l i = some o := by rfl) (hop : o.op = .load ty r0.r.opd := by rfl) (hd : o.dst = some d := by rfl) (hz : ∀ w c v, r0.r.T V w c v → r0.r.W v = .pointer (some ad) := by first | exact fun _ _ _ h => h | exact fun _ _ _ _ => rfl) (hA' : Fs.filter (aff [] i (some d)) = [] := by rfl) (hg : Gd l n dt V i o.guard := by first | exact trivial | exact ⟨rfl, _, ⟨rfl, rfl⟩, rfl⟩) : OpStep P l dt Q n a m D CB Fs V w0 c0 i := by
  intro b f w c x o' hJ hout hF hE ho K
  obtain rfl : o = o' := Option.some.inj (hi.symm.trans ho)
  obtain ⟨v0, ev0, sv0⟩ := r0.ev hJ hout hF hE K
  obtain ⟨u, h1, h2⟩ := L K
  exact .pure d (hg.wanted hJ hF hE K) hd (by rw [hA']; trivial) hJ.gi (ex_load hop (ev0.trans (hz w c v0 sv0)) h1) h2

abbrev iE (x : Int) : TyC := TyC.eq (.int .i64 x)
abbrev bE (x : Bool) : TyC := TyC.eq (.bool x)
abbrev uE : TyC := TyC.eq undef
abbrev PT : TyC := TyC.ptr
abbrev pE (g k : Nat) : TyC := TyC.eq (.pointer (some ⟨g, k, none⟩))
abbrev vP (g : Nat) : Value := .pointer (some ⟨g, 0, none⟩)
abbrev vI (x : Int) : Value := .int .i64 x
end
end Go.Col
