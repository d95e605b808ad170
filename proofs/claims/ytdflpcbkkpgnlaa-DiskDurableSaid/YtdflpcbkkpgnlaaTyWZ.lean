/- Walks by types: frames by what their slots hold. No program is named here. -/
import Derived.Test.YtdflpcbkkpgnlaaB0
import Derived.Test.YtdflpcbkkpgnlaaTypedOpsZ
namespace Go.Mem
set_option linter.unusedVariables false
open Go.RowKit

/-- A region's operations look as a region's do: edges lead back, no slot is written twice, all slots that are written are listed. -/
def chk (ops : Array Oper) (D : List Nat) : Bool := (List.range ops.size).all fun i => match ops[i]? with
  | none => true
  | some o => o.after.all (fun e => !Region.binds .any e || decide (e.on < i)) && (match o.dst with
    | none => true
    | some d => D.contains d && (List.range i).all fun j => match ops[j]? with | none => true | some o' => !(o'.dst == some d))
section
variable {P : Program} {ops : Array Oper} {D : List Nat} {Q : Exit → Act → World → Prop}
theorem chk_at (h : chk ops D = true) {i : Nat} {o : Oper} (ho : ops[i]? = some o) : o.after.all (fun e => !Region.binds .any e || decide (e.on < i)) = true ∧ (match o.dst with
    | none => true
    | some d => D.contains d && (List.range i).all fun j => match ops[j]? with | none => true | some o' => !(o'.dst == some d)) = true := by
  have hi := (Array.getElem?_eq_some_iff.1 ho).1
  have := List.all_eq_true.1 h i (by simpa using hi)
  rw [ho] at this
  simpa [Bool.and_eq_true] using this
theorem chk_ord (h : chk ops D = true) : ∀ (i : Nat) (o : Oper), ops[i]? = some o → ∀ e ∈ o.after, Region.binds .any e = true → e.on < i := fun i o ho e he hb => by
  have := Array.all_eq_true_iff_forall_mem.1 (chk_at h ho).1 e he
  rw [hb] at this
  simpa using this
theorem chk_in (h : chk ops D = true) (i : Nat) (o : Oper) (d : Nat) (ho : ops[i]? = some o) (hd : o.dst = some d) : d ∈ D := by
  have := (chk_at h ho).2
  rw [hd] at this
  simp only [Bool.and_eq_true] at this
  simpa using this.1
theorem chk_lt (h : chk ops D = true) {i j : Nat} {o o' : Oper} {d : Nat} (ho : ops[i]? = some o) (ho' : ops[j]? = some o') (hd : o.dst = some d) (hd' : o'.dst = some d) (hj : j < i) : False := by
  have := (chk_at h ho).2
  rw [hd] at this
  simp only [Bool.and_eq_true] at this
  have := List.all_eq_true.1 this.2 j (by simpa using hj)
  rw [ho'] at this
  simp [hd'] at this
theorem chk_dst (h : chk ops D = true) : ∀ (i j : Nat) (o o' : Oper) d, ops[i]? = some o → ops[j]? = some o' → o.dst = some d → o'.dst = some d → i = j := fun i j o o' d ho ho' hd hd' => by
  rcases Nat.lt_trichotomy i j with hl | he | hg
  · exact (chk_lt h ho' ho hd' hd hl).elim
  · exact he
  · exact (chk_lt h ho ho' hd hd' hg).elim

/-- c is the frame a with the slots of f written anew. -/
structure Fr (a c : Act) (f : Nat → Option Value) : Prop where
  ev : ∀ t, t < a.tmps.size → c.eval (.tmp t) = (f t).getD (a.eval (.tmp t))
  size : c.tmps.size = a.tmps.size
  defers : c.defers = a.defers
theorem Fr.in {a c : Act} {f : Nat → Option Value} (h : Fr a c f) {t : Nat} {v : Value} (ht : t < a.tmps.size) (hf : f t = some v) : c.eval (.tmp t) = v := by rw [h.ev t ht, hf]; rfl
theorem Fr.out {a c : Act} {f : Nat → Option Value} (h : Fr a c f) {t : Nat} {v : Value} (ht : t < a.tmps.size) (hf : f t = none) (hv : a.eval (.tmp t) = v) : c.eval (.tmp t) = v := by rw [h.ev t ht, hf, hv]; rfl

/-- Operation i is x, writes slot d, is guarded by g, and waits for others. -/
def IsO (ops : Array Oper) (i : Nat) (d : Option Nat) (x : Op) (g : Option (Nat × Bool)) (deps : List Nat) : Prop := ∃ o, ops[i]? = some o ∧ o.op = x ∧ o.dst = d ∧ o.guard = g ∧ ∀ k ∈ deps, ∃ e ∈ o.after, Region.binds .any e = true ∧ e.on = k
theorem IsO.of {i : Nat} {d : Option Nat} {x : Op} {g : Option (Nat × Bool)} {deps : List Nat} (o : Oper) (ho : ops[i]? = some o) (h1 : o.op = x) (h2 : o.dst = d) (h3 : o.guard = g) (h4 : (deps.all fun k => o.after.any fun e => Region.binds .any e && e.on == k) = true) : IsO ops i d x g deps := by
  refine ⟨o, ho, h1, h2, h3, fun k hk => ?_⟩
  have h5 := List.all_eq_true.1 h4 k hk
  obtain ⟨i, hi, h6⟩ := Array.any_eq_true.1 h5
  rw [Bool.and_eq_true] at h6
  exact ⟨o.after[i], Array.getElem_mem hi, h6.1, by simpa using h6.2⟩
def nthL : List Oper → Nat → Option Oper
  | [], _ => none
  | a :: _, 0 => some a
  | _ :: l, n + 1 => nthL l n
theorem nthL_eq : ∀ (l : List Oper) (i : Nat), nthL l i = l[i]?
  | [], i => by simp [nthL]
  | a :: l, 0 => by simp [nthL]
  | a :: l, n + 1 => by simp [nthL, nthL_eq l n]
theorem IsO.mk' {l : List Oper} (hops : ops = l.toArray) (i : Nat) (o : Oper) (ho : nthL l i = some o) (deps : List Nat) (h4 : (deps.all fun k => o.after.any fun e => Region.binds .any e && e.on == k) = true) : IsO ops i o.dst o.op o.guard deps := by
  subst hops
  exact IsO.of o (by rw [← ho, nthL_eq]; simp) rfl rfl rfl h4
theorem IsO.get {i : Nat} {d : Option Nat} {x : Op} {g : Option (Nat × Bool)} {deps : List Nat} (h : IsO ops i d x g deps) {o : Oper} (ho : ops[i]? = some o) {b : Nat → Bool} (ha : ∀ e ∈ o.after, Region.binds .any e = true → b e.on = true) : o.op = x ∧ o.dst = d ∧ o.guard = g ∧ ∀ k ∈ deps, b k = true := by
  obtain ⟨o', h1, h2, h3, h4, h5⟩ := h
  rw [ho] at h1
  injection h1 with h1
  subst h1
  refine ⟨h2, h3, h4, fun k hk => ?_⟩
  obtain ⟨e, he, hb, rfl⟩ := h5 k hk
  exact ha e he hb
/-- What slot d of an operation that has run holds. -/
theorem IsO.got {i d : Nat} {x : Op} {g : Option (Nat × Bool)} {deps : List Nat} (h : IsO ops i (some d) x g deps) {w0 : World} {CB : Nat → Prop} {O : List (Value × Ty)} {B : List Bx} {V : Nat → Ty} {b : Nat → Bool} {f : Nat → Option Value} {w : World} (hJ : J ops w0 CB O B V b f w) (hb : b i = true) : ∃ v, f d = some v ∧ (V d).sat v w := by
  obtain ⟨o, h1, _, h2, _⟩ := h
  exact hJ.got h1 h2 hb
theorem IsO.none {i d : Nat} {x : Op} {g : Option (Nat × Bool)} {deps : List Nat} (h : IsO ops i (some d) x g deps) {w0 : World} {CB : Nat → Prop} {O : List (Value × Ty)} {B : List Bx} {V : Nat → Ty} {b : Nat → Bool} {f : Nat → Option Value} {w : World} (hJ : J ops w0 CB O B V b f w) (hb : b i = false) : f d = none := by
  obtain ⟨o, h1, _, h2, _⟩ := h
  cases hf : f d with
  | none => rfl
  | some v =>
    have := (hJ.set i o d h1 h2).2 (by rw [hf]; simp)
    rw [hb] at this
    cases this
theorem IsO.not {i j : Nat} {d : Option Nat} {x : Op} {g : Option (Nat × Bool)} {deps : List Nat} (h : IsO ops i d x g deps) {w0 : World} {CB : Nat → Prop} {O : List (Value × Ty)} {B : List Bx} {V : Nat → Ty} {b : Nat → Bool} {f : Nat → Option Value} {w : World} (hJ : J ops w0 CB O B V b f w) (hj : b j = false) (hd : j ∈ deps) : b i = false := by
  obtain ⟨o, h1, _, h2, _, h5⟩ := h
  cases hb : b i with
  | false => rfl
  | true =>
    obtain ⟨e, he, hbe, rfl⟩ := h5 j hd
    have := hJ.cl i o h1 hb e he hbe
    rw [hj] at this
    cases this
theorem wanted_none {o : Oper} {y : Nat → Option Bool} (h : o.guard = none) : Region.wanted o y = true := by simp [Region.wanted, h]
theorem wanted_some {o : Oper} {c : Act} {j d : Nat} {q r : Bool} {x : Op} {g : Option (Nat × Bool)} {deps : List Nat} (h : o.guard = some (j, q)) (hj : IsO ops j (some d) x g deps) (hd : d < c.tmps.size) (hv : c.eval (.tmp d) = .bool r) : Region.wanted o (yielded ops c.tmps) = (r == q) := by
  obtain ⟨o', h1, _, h2, _⟩ := hj
  have hv' : c.tmps[d]? = some (.bool r) := by
    have : c.tmps.getD d undef = .bool r := hv
    simp only [Array.getD, hd, dif_pos] at this
    rw [Array.getElem?_eq_getElem hd]
    exact congrArg some this
  simp [Region.wanted, h, yielded, h1, h2, hv']
theorem wanted_undef {o : Oper} {c : Act} {j d : Nat} {q : Bool} {x : Op} {g : Option (Nat × Bool)} {deps : List Nat} (h : o.guard = some (j, q)) (hj : IsO ops j (some d) x g deps) (hd : d < c.tmps.size) (hv : c.eval (.tmp d) = undef) : Region.wanted o (yielded ops c.tmps) = false := by
  obtain ⟨o', h1, _, h2, _⟩ := hj
  have hv' : c.tmps[d]? = some undef := by
    have : c.tmps.getD d undef = undef := hv
    simp only [Array.getD, hd, dif_pos] at this
    rw [Array.getElem?_eq_getElem hd]
    exact congrArg some this
  simp [Region.wanted, h, yielded, h1, h2, hv', undef]

theorem then_ret {n : Act → World → Prop} {a : Act} {w : World} (h : Q .ret a w) : Exit.then n Q .ret a w := h
theorem far_of (B : List Bx) (h : (B.filterMap (·.old)).Nodup) : B.Pairwise (fun x y => ∀ g, x.old = some g → y.old ≠ some g) := by
  induction B with
  | nil => exact List.Pairwise.nil
  | cons x B ih =>
    cases hx : x.old with
    | none =>
      rw [List.filterMap_cons_none hx] at h
      exact List.pairwise_cons.2 ⟨fun y _ g hg => (by rw [hx] at hg; cases hg), ih h⟩
    | some g =>
      rw [List.filterMap_cons_some hx] at h
      obtain ⟨h1, h2⟩ := List.nodup_cons.1 h
      refine List.pairwise_cons.2 ⟨fun y hy g' hg hy' => h1 ?_, ih h2⟩
      rw [hx] at hg
      injection hg with hg
      subst hg
      exact List.mem_filterMap.2 ⟨y, hy, hy'⟩
/-- The types of slots, from a list. -/
def tyv (L : List (Nat × Ty)) (d : Nat) : Ty := (L.lookup d).getD Ty.any

theorem region_gen {id : Nat} {dr : Bool} {ops0 : Array Oper} {a : Act} {w : World} (h : ∀ ops, ops = ops0 → (Code.region id ops dr).wp P Q a w) : (Code.region id ops0 dr).wp P Q a w := h _ rfl

theorem region_ty {id : Nat} {dr : Bool} {a : Act} {w0 : World} (hm : dr = true → P.follows .mixedOrders = true) (D : List Nat) (hchk : chk ops D = true) (CB : Nat → Prop) (O : List (Value × Ty)) (B : List Bx) (V : Nat → Ty)
    (hO : ∀ p ∈ O, p.2.sat p.1 w0)
    (hold : ∀ x ∈ B, ∀ g, x.old = some g → Blk w0 g x.t x.z)
    (hfar : B.Pairwise (fun x y => ∀ g, x.old = some g → y.old ≠ some g))
    (hstep : ∀ (b : Nat → Bool) (f : Nat → Option Value) (w : World) (c : Act) (i : Nat) (o : Oper), i < ops.size → J ops w0 CB O B V b f w → (∀ d, d ∉ D → f d = none) → Fr a c f → ops[i]? = some o → b i = false → (∀ e ∈ o.after, Region.binds .any e = true → b e.on = true) →
      Step P ops Q w0 CB B V b f w c i o)
    (hdone : ∀ b f w c, J ops w0 CB O B V b f w → (∀ i, i < ops.size → b i = true) → (∀ d, d ∉ D → f d = none) → Fr a c f → Q .normal c w) :
    (Code.region id ops dr).wp P Q a w0 := by
  obtain ⟨T, ds⟩ := a
  have hout : ∀ (b : Nat → Bool) f w, J ops w0 CB O B V b f w → ∀ d, d ∉ D → f d = none := fun b f w hJ d hd => hJ.out d (fun i o ho e => hd (chk_in hchk i o d ho e))
  have hfr : ∀ f, Fr ⟨T, ds⟩ ⟨upd T f, ds⟩ f := fun f => ⟨fun t ht => by rw [upd_eval T f ds t ht]; rfl, by simp [upd], rfl⟩
  refine region_typed hm CB O B V (chk_ord hchk) (chk_dst hchk) hO hold hfar (fun b f w hJ hb => hdone b f w _ hJ hb (hout _ _ _ hJ) (hfr f)) ?_
  intro b f w i o hJ ho hbi ha
  exact hstep b f w _ i o (Array.getElem?_eq_some_iff.1 ho).1 hJ (hout _ _ _ hJ) (hfr f) ho hbi ha

/-- A box that holds a value of a type. -/
def BX (w : World) (g : Nat) (t : TypeId) (τ : Ty) : Prop := ∃ v, τ.sat v w ∧ Blk w g t v.cells
theorem BX.new {w w' : World} {g : Nat} {t : TypeId} {τ : Ty} (h : BX w g t τ) (hn : New w w') : BX w' g t τ := by
  obtain ⟨v, h1, h2⟩ := h
  exact ⟨v, τ.new h1 hn, h2.chg hn (fun h => h)⟩
theorem BX.lt {w : World} {g : Nat} {t : TypeId} {τ : Ty} (h : BX w g t τ) : g < w.heap.size := by
  obtain ⟨v, h1, h2⟩ := h
  exact h2.lt
/-- Values of the type are structs of n cells. -/
def Ty.str (τ : Ty) (n : Nat) : Prop := ∀ v w, τ.sat v w → ∃ cs : Array Value, v = .agg cs ∧ cs.size = n ∧ cs.all (·.oneCell') = true
theorem cells_agg (cs : Array Value) : (Value.agg cs).cells = cs := rfl
theorem BX.load {w : World} {g n : Nat} {t ty : TypeId} {τ : Ty} (h : BX w g t τ) (hs : τ.str n) (hA : Agg P ty n) : ∃ v, (loadVar ty ⟨g, 0, none⟩).run P w = .ok v w ∧ τ.sat v w := by
  obtain ⟨v, h1, h2⟩ := h
  obtain ⟨cs, rfl, h3, _⟩ := hs v w h1
  subst h3
  exact ⟨_, Agg.load hA h2, h1⟩
theorem BX.of {w : World} {g : Nat} {t : TypeId} {τ : Ty} {cs : Array Value} (hb : Blk w g t cs) (hc : τ.c1.sat cs w) : BX w g t τ := by
  obtain ⟨v, h1, rfl⟩ := hc
  exact ⟨v, h1, hb⟩
theorem store_ty {w : World} {g n : Nat} {ty t : TypeId} {old : Array Value} {τ : Ty} {v : Value} (hA : Agg P ty n) (hs : τ.str n) (hb : Blk w g t old) (ho : old.size = n) (hz : NoInt old.toList) (hv : τ.sat v w) :
    ∃ w', (storeVar ty ⟨g, 0, none⟩ v).run P w = .ok () w' ∧ Chg (fun k => k = g) w w' ∧ ∃ cs, Blk w' g t cs ∧ τ.c1.sat cs w' := by
  obtain ⟨cs, rfl, h1, h2⟩ := hs v w hv
  obtain ⟨w', h3, h4, h5⟩ := store_agg (P := P) (t := t) hA hb ho h1 h2
  exact ⟨w', h3, h4, cs, h5, _, τ.st hv hb hz h4, rfl⟩
end
end Go.Mem
