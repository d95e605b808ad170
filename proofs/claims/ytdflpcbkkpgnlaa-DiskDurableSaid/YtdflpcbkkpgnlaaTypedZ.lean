/- Regions by types: what each slot holds and what each box holds, whatever the order. No program is named here. -/
import Derived.Test.YtdflpcbkkpgnlaaB0
import Derived.Test.YtdflpcbkkpgnlaaRegInvZ
import Derived.Test.YtdflpcbkkpgnlaaMemResZ
namespace Go.Mem
set_option linter.unusedVariables false
open Go.RowKit

/-! ### the invariant law, for regions that draw and for regions in order, guards and all -/
section
variable {P : Program} {ops : Array Oper} {Q : Exit → Act → World → Prop} {md : Region.Mode} {T : Array Value} {ds : List Deferred}
/-- What one operation has to do for an invariant. -/
def OpOk (P : Program) (ops : Array Oper) (Q : Exit → Act → World → Prop) (T : Array Value) (ds : List Deferred) (I : (Nat → Bool) → (Nat → Option Value) → World → Prop) (b : Nat → Bool) (f : Nat → Option Value) (w : World) (i : Nat) (o : Oper) : Prop :=
  (Region.wanted o (yielded ops (upd T f)) = true ∧ o.wp P ⟨upd T f, ds⟩ w (fun a' w' => ∃ v, a' = (Act.mk (upd T f) ds).put o.dst v ∧ I (fun k => if k = i then true else b k) (upF o.dst v f) w') Q) ∨
  (Region.wanted o (yielded ops (upd T f)) = false ∧ I (fun k => if k = i then true else b k) (upF o.dst undef f) w)

theorem wpAny_inv2 (I : (Nat → Bool) → (Nat → Option Value) → World → Prop)
    (hord : ∀ (i : Nat) (o : Oper), ops[i]? = some o → ∀ e ∈ o.after, Region.binds md e = true → e.on < i)
    (hdone : ∀ b f w, I b f w → (∀ i, i < ops.size → b i = true) → Q .normal ⟨upd T f, ds⟩ w)
    (hstep : ∀ (b : Nat → Bool) (f : Nat → Option Value) (w : World) (i : Nat) (o : Oper), I b f w → ops[i]? = some o → b i = false → (∀ e ∈ o.after, Region.binds md e = true → b e.on = true) → OpOk P ops Q T ds I b f w i o) :
    ∀ (fuel : Nat) (listed : Array Bool) (f : Nat → Option Value) (w : World), listed.size = ops.size → left listed ≤ fuel → I (fun i => listed.getD i false) f w → wpAny P md ops Q fuel listed ⟨upd T f, ds⟩ w := by
  have hall : ∀ listed : Array Bool, listed.size = ops.size → Region.ready md ops listed = [] → ∀ i, i < ops.size → listed.getD i false = true := by
    intro listed hs hr i
    induction i using Nat.strongRecOn with
    | ind i ih =>
      intro hi
      have ho : ops[i]? = some ops[i] := Array.getElem?_eq_getElem hi
      have := ready_none hr ho (fun e he hbe => ih e.on (hord i _ ho e he hbe) (Nat.lt_trans (hord i _ ho e he hbe) hi))
      simpa [Array.getD, hs, hi] using this
  intro fuel
  induction fuel with
  | zero =>
    intro listed f w hs hl hJ
    have hr : Region.ready md ops listed = [] := by
      cases h : Region.ready md ops listed with
      | nil => rfl
      | cons i t =>
        have hm : i ∈ Region.ready md ops listed := by rw [h]; simp
        have := left_set (ready_mem hm).2.1
        omega
    exact ⟨hr, hdone _ _ _ hJ (hall listed hs hr)⟩
  | succ fuel ih =>
    intro listed f w hs hl hJ
    refine ⟨fun hr => hdone _ _ _ hJ (hall listed hs hr), fun i hi => ?_⟩
    obtain ⟨h1, h2, o, ho, ha⟩ := ready_mem hi
    have hb : listed.getD i false = false := by
      simpa [Array.getD, hs, h1] using h2
    have e : (fun k => (listed.setIfInBounds i true).getD k false) = (fun k => if k = i then true else listed.getD k false) := by
      funext k
      by_cases hk : k = i
      · subst hk; simp [Array.getD, hs, h1]
      · rw [if_neg hk]
        simp only [Array.getD_eq_getD_getElem?, Array.getElem?_setIfInBounds]
        rw [if_neg (fun e => hk e.symm)]
    unfold wpOp
    rw [ho]
    simp only
    rcases hstep _ f w i o hJ ho hb ha with ⟨hg, hw⟩ | ⟨hg, hw⟩
    · rw [if_pos hg]
      refine Or.inl (Oper.wp_mono ?_ hw)
      rintro a' w' ⟨v, rfl, hJ'⟩
      rw [upd_put]
      refine ih _ _ _ (by simpa using hs) (by have := left_set h2; omega) ?_
      rw [e]
      exact hJ'
    · rw [if_neg (by rw [hg]; simp)]
      rw [upd_put]
      refine ih _ _ _ (by simpa using hs) (by have := left_set h2; omega) ?_
      rw [e]
      exact hw

theorem wpOps_inv (I : (Nat → Bool) → (Nat → Option Value) → World → Prop)
    (hord : ∀ (i : Nat) (o : Oper), ops[i]? = some o → ∀ e ∈ o.after, Region.binds .any e = true → e.on < i)
    (hdone : ∀ b f w, I b f w → (∀ i, i < ops.size → b i = true) → Q .normal ⟨upd T f, ds⟩ w)
    (hstep : ∀ (b : Nat → Bool) (f : Nat → Option Value) (w : World) (i : Nat) (o : Oper), I b f w → ops[i]? = some o → b i = false → (∀ e ∈ o.after, Region.binds .any e = true → b e.on = true) → OpOk P ops Q T ds I b f w i o) :
    ∀ (m k : Nat) (f : Nat → Option Value) (w : World), k + m = ops.size → I (fun i => decide (i < k)) f w → wpOps P ops Q (List.range' k m) ⟨upd T f, ds⟩ w := by
  intro m
  induction m with
  | zero =>
    intro k f w hk hI
    exact hdone _ _ _ hI (fun i hi => by simp; omega)
  | succ m ih =>
    intro k f w hk hI
    have hlt : k < ops.size := by omega
    have ho : ops[k]? = some ops[k] := Array.getElem?_eq_getElem hlt
    rw [List.range'_succ]
    unfold wpOps
    rw [ho]
    simp only
    have e : (fun i => decide (i < k + 1)) = (fun i => if i = k then true else decide (i < k)) := by
      funext i
      by_cases h : i = k
      · subst h; simp
      · rw [if_neg h]
        by_cases h2 : i < k
        · have : i < k + 1 := by omega
          simp [h2, this]
        · have : ¬ i < k + 1 := by omega
          simp [h2, this]
    rcases hstep _ f w k _ hI ho (by simp) (fun e he hbe => by have := hord k _ ho e he hbe; simpa using this) with ⟨hg, hw⟩ | ⟨hg, hw⟩
    · rw [if_pos hg]
      refine Or.inl (Oper.wp_mono ?_ hw)
      rintro a' w' ⟨v, rfl, hJ'⟩
      rw [upd_put]
      refine ih _ _ _ (by omega) ?_
      rw [e]
      exact hJ'
    · rw [if_neg (by rw [hg]; simp)]
      rw [upd_put]
      refine ih _ _ _ (by omega) ?_
      rw [e]
      exact hw

theorem region_inv2 {id : Nat} {dr : Bool} {w : World} (hm : dr = true → P.follows .mixedOrders = true) (I : (Nat → Bool) → (Nat → Option Value) → World → Prop)
    (hord : ∀ (i : Nat) (o : Oper), ops[i]? = some o → ∀ e ∈ o.after, Region.binds .any e = true → e.on < i)
    (h0 : I (fun _ => false) (fun _ => none) w ∧ I (fun _ => false) (fun _ => none) w.drew)
    (hdone : ∀ b f w, I b f w → (∀ i, i < ops.size → b i = true) → Q .normal ⟨upd T f, ds⟩ w)
    (hstep : ∀ (b : Nat → Bool) (f : Nat → Option Value) (w : World) (i : Nat) (o : Oper), I b f w → ops[i]? = some o → b i = false → (∀ e ∈ o.after, Region.binds .any e = true → b e.on = true) → OpOk P ops Q T ds I b f w i o) :
    (Code.region id ops dr).wp P Q ⟨T, ds⟩ w := by
  cases dr with
  | true =>
    refine wp_region_any (hm rfl) ?_
    have h := wpAny_inv2 (P := P) (Q := Q) (md := .any) (T := T) (ds := ds) I hord hdone hstep ops.size (Array.replicate ops.size false) (fun _ => none) w.drew (by simp) (by unfold left; simp [List.countP_replicate]) (by
      have e : (fun i => (Array.replicate ops.size false).getD i false) = (fun _ => false) := by
        funext i
        simp only [Array.getD_eq_getD_getElem?, Array.getElem?_replicate]
        split <;> rfl
      rw [e]
      exact h0.2)
    rw [upd_none] at h
    exact h
  | false =>
    refine wp_region ?_
    have h := wpOps_inv (P := P) (Q := Q) (T := T) (ds := ds) I hord hdone hstep ops.size 0 (fun _ => none) w (by omega) (by
      have e : (fun i => decide (i < 0)) = (fun _ => false) := by
        funext i; simp
      rw [e]
      exact h0.1)
    rw [upd_none] at h
    rwa [List.range_eq_range']
end

/-- What a value is, in a world; kept by new memory, and by a store into a box whose cells are safe. -/
structure Ty where
  sat : Value → World → Prop
  new : ∀ {v w w'}, sat v w → New w w' → sat v w'
  st : ∀ {v w w' g t cs}, sat v w → Blk w g t cs → NoInt cs.toList → Chg (fun k => k = g) w w' → sat v w'
/-- What the cells of a block are. -/
structure CTy where
  sat : Array Value → World → Prop
  new : ∀ {v w w'}, sat v w → New w w' → sat v w'
  st : ∀ {v w w' g t cs}, sat v w → Blk w g t cs → NoInt cs.toList → Chg (fun k => k = g) w w' → sat v w'
def Ty.any : Ty := ⟨fun _ _ => True, fun _ _ => trivial, fun _ _ _ _ => trivial⟩
/-- That value. -/
def Ty.eq (c : Value) : Ty := ⟨fun v _ => v = c, fun h _ => h, fun h _ _ _ => h⟩
/-- A tuple. -/
def Ty.tup1 (a : Ty) (u : Value) : Ty := ⟨fun v w => ∃ x, v = .tuple #[x, u] ∧ a.sat x w, fun ⟨x, h1, h2⟩ hn => ⟨x, h1, a.new h2 hn⟩, fun ⟨x, h1, h2⟩ h3 h4 h5 => ⟨x, h1, a.st h2 h3 h4 h5⟩⟩
def Ty.tup2 (a b : Ty) (u : Value) : Ty := ⟨fun v w => ∃ x y, v = .tuple #[x, y, u] ∧ a.sat x w ∧ b.sat y w, fun ⟨x, y, h1, h2, h3⟩ hn => ⟨x, y, h1, a.new h2 hn, b.new h3 hn⟩, fun ⟨x, y, h1, h2, h2'⟩ h3 h4 h5 => ⟨x, y, h1, a.st h2 h3 h4 h5, b.st h2' h3 h4 h5⟩⟩
/-- The cells of one value; of two values in a row. -/
def Ty.c1 (a : Ty) : CTy := ⟨fun cs w => ∃ v, a.sat v w ∧ cs = v.cells, fun ⟨v, h1, h2⟩ hn => ⟨v, a.new h1 hn, h2⟩, fun ⟨v, h1, h2⟩ h3 h4 h5 => ⟨v, a.st h1 h3 h4 h5, h2⟩⟩
def Ty.c2 (a b : Ty) : CTy := ⟨fun cs w => ∃ v u, a.sat v w ∧ b.sat u w ∧ cs = v.cells ++ u.cells, fun ⟨v, u, h1, h2, h3⟩ hn => ⟨v, u, a.new h1 hn, b.new h2 hn, h3⟩, fun ⟨v, u, h1, h1', h2⟩ h3 h4 h5 => ⟨v, u, a.st h1 h3 h4 h5, b.st h1' h3 h4 h5, h2⟩⟩
/-- A slice that points to a block, in two words: the value's form. -/
def Ty.ptr : Ty := ⟨fun v _ => ∃ g, v = .pointer (some ⟨g, 0, none⟩), fun h _ => h, fun h _ _ _ => h⟩
def Ty.sl (n : Nat) : Ty := ⟨fun v _ => ∃ g, v = .slice (some ⟨g, 0, none⟩) n n, fun h _ => h, fun h _ _ _ => h⟩

/-- A call, by types. -/
def CT (P : Program) (f : Nat) (vs : Array Value) (w : World) (τ : Ty) : Prop := Calls P f vs w fun e w' => ∃ v, e = .returned v ∧ τ.sat v w' ∧ New w w'

/-- The block that an address lies in. -/
def adr : Value → Option Nat
  | .pointer (some a) => some a.block
  | .slice (some a) _ _ => some a.block
  | _ => none
/-- A box: the slot that holds its address (or the block, if it was there ahead of the region), its type, its cells at first, the operation that fills it, what it holds then. -/
structure Bx where
  p : Nat
  old : Option Nat
  t : TypeId
  z : Array Value
  st : Nat
  ct : CTy
def Bx.at (x : Bx) (f : Nat → Option Value) : Option Nat := match x.old with | some g => some g | none => (f x.p).bind adr

section
variable {P : Program} {ops : Array Oper} {Q : Exit → Act → World → Prop} {T : Array Value} {ds : List Deferred}

structure J (ops : Array Oper) (w0 : World) (CB : Nat → Prop) (O : List (Value × Ty)) (B : List Bx) (V : Nat → Ty) (b : Nat → Bool) (f : Nat → Option Value) (w : World) : Prop where
  chg : Chg CB w0 w
  typ : ∀ d v, f d = some v → (V d).sat v w
  otr : ∀ p ∈ O, p.2.sat p.1 w
  box : ∀ x ∈ B, ∀ g, x.at f = some g → g < w.heap.size ∧ (x.old = none → w0.heap.size ≤ g) ∧ ∃ cs, Blk w g x.t cs ∧ (b x.st = false → cs = x.z) ∧ (b x.st = true → x.ct.sat cs w)
  far : B.Pairwise (fun x y => ∀ g, x.at f = some g → y.at f ≠ some g)
  set : ∀ (i : Nat) (o : Oper) d, ops[i]? = some o → o.dst = some d → (b i = true ↔ f d ≠ none)
  out : ∀ d, (∀ (i : Nat) (o : Oper), ops[i]? = some o → o.dst ≠ some d) → f d = none
  cl : ∀ (i : Nat) (o : Oper), ops[i]? = some o → b i = true → ∀ e ∈ o.after, Region.binds .any e = true → b e.on = true

theorem J.typ0 {w0 : World} {CB : Nat → Prop} {O : List (Value × Ty)} {B : List Bx} {V : Nat → Ty} {b : Nat → Bool} {w : World} (h : J ops w0 CB O B V b (fun _ => none) w) : ∀ d v, (fun _ : Nat => (none : Option Value)) d = some v → (V d).sat v w.drew := fun d v h => (by cases h)
theorem J.box0 {w0 : World} {CB : Nat → Prop} {O : List (Value × Ty)} {B : List Bx} {V : Nat → Ty} {w : World} (h : J ops w0 CB O B V (fun _ => false) (fun _ => none) w) : ∀ x ∈ B, ∀ g, x.at (fun _ => none) = some g → g < w.drew.heap.size ∧ (x.old = none → w0.heap.size ≤ g) ∧ ∃ cs, Blk w.drew g x.t cs ∧ ((fun _ : Nat => false) x.st = false → cs = x.z) ∧ ((fun _ : Nat => false) x.st = true → x.ct.sat cs w.drew) := fun x hx g hg => by
  obtain ⟨h1, h2, cs, h3, h4, h5⟩ := h.box x hx g hg
  exact ⟨h1, h2, cs, Blk.drew h3, h4, fun h => (by cases h)⟩
theorem J.got {w0 : World} {CB : Nat → Prop} {O : List (Value × Ty)} {B : List Bx} {V : Nat → Ty} {b : Nat → Bool} {f : Nat → Option Value} {w : World} (h : J ops w0 CB O B V b f w) {i d : Nat} {o : Oper} (ho : ops[i]? = some o) (hd : o.dst = some d) (hb : b i = true) : ∃ v, f d = some v ∧ (V d).sat v w := by
  have h1 := (h.set i o d ho hd).1 hb
  cases hf : f d with
  | none => exact absurd hf h1
  | some v => exact ⟨v, rfl, h.typ d v hf⟩

/-- What a step has to show. -/
inductive Step (P : Program) (ops : Array Oper) (Q : Exit → Act → World → Prop) (w0 : World) (CB : Nat → Prop) (B : List Bx) (V : Nat → Ty) (b : Nat → Bool) (f : Nat → Option Value) (w : World) (a : Act) (i : Nat) (o : Oper) : Prop where
  | val (d : Nat) (hw : Region.wanted o (yielded ops a.tmps) = true) (hd : o.dst = some d) (hB : B.all (fun x => !(x.p == d && x.old.isNone)) = true) (hst : B.all (fun x => !(x.st == i)) = true)
      (h : o.wp P a w (fun a' w' => ∃ v, a' = a.put o.dst v ∧ New w w' ∧ (V d).sat v w') Q)
  | mk (x : Bx) (L R : List Bx) (hw : Region.wanted o (yielded ops a.tmps) = true) (hx : B = L ++ x :: R) (hL : L.all (fun y => !(y.p == x.p && y.old.isNone)) = true) (hR : R.all (fun y => !(y.p == x.p && y.old.isNone)) = true) (hold : x.old = none) (hd : o.dst = some x.p) (hst : (L ++ R).all (fun y => !(y.st == i)) = true)
      (h : o.wp P a w (fun a' w' => ∃ v g cs, a' = a.put o.dst v ∧ adr v = some g ∧ w.heap.size ≤ g ∧ g < w'.heap.size ∧ New w w' ∧ (V x.p).sat v w' ∧ Blk w' g x.t cs ∧ (¬ x.st = i → cs = x.z) ∧ (x.st = i → x.ct.sat cs w')) Q)
      (hno : ¬ x.st = i → b x.st = false)
  | skip (d : Nat) (hd : o.dst = some d) (hB : B.all (fun x => !(x.p == d && x.old.isNone)) = true) (hst : B.all (fun x => !(x.st == i)) = true) (hw : Region.wanted o (yielded ops a.tmps) = false) (h : (V d).sat undef w)
  | store (x : Bx) (L R : List Bx) (hw : Region.wanted o (yielded ops a.tmps) = true) (hx : B = L ++ x :: R) (hst : x.st = i) (hoth : (L ++ R).all (fun y => !(y.st == i)) = true) (hd : o.dst = none) (hz : NoInt x.z.toList) (hc : ∀ g, x.old = some g → CB g)
      (h : ∀ g, x.at f = some g → Blk w g x.t x.z → o.wp P a w (fun a' w' => (∃ v, a' = a.put o.dst v) ∧ Chg (fun k => k = g) w w' ∧ ∃ cs, Blk w' g x.t cs ∧ x.ct.sat cs w') Q)
      (hat : ∃ g, x.at f = some g)

theorem put_none (a : Act) (v : Value) : a.put none v = a := rfl
theorem Bx.at_up {x : Bx} {d : Nat} {v : Value} {f : Nat → Option Value} (h : ¬ (x.p = d ∧ x.old = none)) : x.at (upF (some d) v f) = x.at f := by
  unfold Bx.at
  cases ho : x.old with
  | some g => rfl
  | none =>
    have hp : ¬ x.p = d := fun e => h ⟨e, ho⟩
    have hp' : ¬ d = x.p := fun e => hp e.symm
    simp [upF, hp']
theorem bool_ne {a b : Bool} (h : a = false) (h' : a = true) : False := by rw [h] at h'; cases h'

theorem region_typed {id : Nat} {dr : Bool} {w0 : World} (hm : dr = true → P.follows .mixedOrders = true) (CB : Nat → Prop) (O : List (Value × Ty)) (B : List Bx) (V : Nat → Ty)
    (hord : ∀ (i : Nat) (o : Oper), ops[i]? = some o → ∀ e ∈ o.after, Region.binds .any e = true → e.on < i)
    (hdst : ∀ (i j : Nat) (o o' : Oper) d, ops[i]? = some o → ops[j]? = some o' → o.dst = some d → o'.dst = some d → i = j)
    (hO : ∀ p ∈ O, p.2.sat p.1 w0)
    (hold : ∀ x ∈ B, ∀ g, x.old = some g → Blk w0 g x.t x.z)
    (hfar : B.Pairwise (fun x y => ∀ g, x.old = some g → y.old ≠ some g))
    (hdone : ∀ b f w, J ops w0 CB O B V b f w → (∀ i, i < ops.size → b i = true) → Q .normal ⟨upd T f, ds⟩ w)
    (hstep : ∀ (b : Nat → Bool) (f : Nat → Option Value) (w : World) (i : Nat) (o : Oper), J ops w0 CB O B V b f w → ops[i]? = some o → b i = false → (∀ e ∈ o.after, Region.binds .any e = true → b e.on = true) →
      Step P ops Q w0 CB B V b f w ⟨upd T f, ds⟩ i o) :
    (Code.region id ops dr).wp P Q ⟨T, ds⟩ w0 := by
  have start : J ops w0 CB O B V (fun _ => false) (fun _ => none) w0 := by
    refine ⟨(Chg.refl _ _), fun d v h => (by cases h), hO, fun x hx g hg => ?_, ?_, fun i o d _ _ => by simp, fun _ _ => rfl, fun i o _ h => (by cases h)⟩
    · unfold Bx.at at hg
      cases ho : x.old with
      | none => rw [ho] at hg; simp at hg
      | some g' =>
        rw [ho] at hg
        injection hg with hg
        subst hg
        have hb := hold x hx g' ho
        exact ⟨hb.lt, fun h => (by cases h), x.z, hb, fun _ => rfl, fun h => (by cases h)⟩
    · refine hfar.imp (fun {x y} h g hx hy => ?_)
      unfold Bx.at at hx hy
      cases hox : x.old with
      | none => rw [hox] at hx; simp at hx
      | some g1 =>
        cases hoy : y.old with
        | none => rw [hoy] at hy; simp at hy
        | some g2 =>
          rw [hox] at hx
          rw [hoy] at hy
          injection hx with hx
          injection hy with hy
          exact h g (by rw [hox, hx]) (by rw [hoy, hy])
  refine region_inv2 hm (J ops w0 CB O B V) hord ⟨start, ⟨start.chg.drew, start.typ0, fun p hp => p.2.new (start.otr p hp) (Chg.refl _ _).drew, start.box0, start.far, start.set, start.out, start.cl⟩⟩ hdone ?_
  · intro b f w i o hJ ho hbi ha
    have hs := hstep b f w i o hJ ho hbi ha
    have hcl : ∀ (j : Nat) (o' : Oper), ops[j]? = some o' → (if j = i then true else b j) = true → ∀ e ∈ o'.after, Region.binds .any e = true → (if e.on = i then true else b e.on) = true := by
      intro j o' ho' hb e he hbe
      split
      · rfl
      · by_cases hj : j = i
        · subst hj
          rw [ho] at ho'
          injection ho' with ho'
          subst ho'
          exact ha e he hbe
        · rw [if_neg hj] at hb
          exact hJ.cl j o' ho' hb e he hbe
    cases hs with
    | val d hw hd hB hst h =>
      refine .inl ⟨hw, ?_⟩
      refine Oper.wp_mono ?_ h
      rintro a' w' ⟨v, rfl, hn, hv⟩
      refine ⟨v, rfl, ?_⟩
      have hB' : ∀ x ∈ B, ¬ (x.p = d ∧ x.old = none) := fun x hx hh => by
        have := List.all_eq_true.1 hB x hx
        simp [hh.1, hh.2] at this
      have hst' : ∀ x ∈ B, ¬ x.st = i := fun x hx hh => by
        have := List.all_eq_true.1 hst x hx
        simp [hh] at this
      rw [hd]
      refine ⟨hJ.chg.new hn, fun d' v' h' => ?_, fun p hp => p.2.new (hJ.otr p hp) hn, fun x hx g hg' => ?_, ?_, fun j o' d' ho' hd' => ?_, fun d' hd' => ?_, hcl⟩
      · simp only [upF] at h'
        split at h'
        · rename_i e
          injection e with e
          subst e
          injection h' with h'
          subst h'
          exact hv
        · exact (V d').new (hJ.typ d' v' h') hn
      · rw [Bx.at_up (hB' x hx)] at hg'
        obtain ⟨h1, h2, cs, h3, h4, h5⟩ := hJ.box x hx g hg'
        rw [if_neg (hst' x hx)]
        exact ⟨Nat.lt_of_lt_of_le h1 hn.size, h2, cs, h3.chg hn (fun h => h), h4, fun h => x.ct.new (h5 h) hn⟩
      · refine List.Pairwise.imp_of_mem ?_ hJ.far
        intro x y hx hy h g hg1 hg2
        rw [Bx.at_up (hB' x hx)] at hg1
        rw [Bx.at_up (hB' y hy)] at hg2
        exact h g hg1 hg2
      · simp only [upF]
        by_cases hj : j = i
        · subst hj
          rw [ho] at ho'
          injection ho' with ho'
          subst ho'
          rw [hd] at hd'
          simp [hd']
        · have hne : ¬ (some d = some d') := fun e => hj (hdst j i o' o d ho' ho (by rw [hd', e]) hd)
          rw [if_neg hj, if_neg hne]
          exact hJ.set j o' d' ho' hd'
      · have hne : ¬ (some d = some d') := fun e => hd' i o ho (by rw [hd, e])
        simp only [upF]
        rw [if_neg hne]
        exact hJ.out d' hd'
    | skip d hd hB hst hw hv =>
      refine .inr ⟨hw, ?_⟩
      obtain ⟨v, hvv⟩ : ∃ v, undef = v := ⟨_, rfl⟩
      rw [hvv] at hv ⊢
      have hn : New w w := Chg.refl _ _
      have hB' : ∀ x ∈ B, ¬ (x.p = d ∧ x.old = none) := fun x hx hh => by
        have := List.all_eq_true.1 hB x hx
        simp [hh.1, hh.2] at this
      have hst' : ∀ x ∈ B, ¬ x.st = i := fun x hx hh => by
        have := List.all_eq_true.1 hst x hx
        simp [hh] at this
      rw [hd]
      refine ⟨hJ.chg.new hn, fun d' v' h' => ?_, fun p hp => p.2.new (hJ.otr p hp) hn, fun x hx g hg' => ?_, ?_, fun j o' d' ho' hd' => ?_, fun d' hd' => ?_, hcl⟩
      · simp only [upF] at h'
        split at h'
        · rename_i e
          injection e with e
          subst e
          injection h' with h'
          subst h'
          exact hv
        · exact (V d').new (hJ.typ d' v' h') hn
      · rw [Bx.at_up (hB' x hx)] at hg'
        obtain ⟨h1, h2, cs, h3, h4, h5⟩ := hJ.box x hx g hg'
        rw [if_neg (hst' x hx)]
        exact ⟨Nat.lt_of_lt_of_le h1 hn.size, h2, cs, h3.chg hn (fun h => h), h4, fun h => x.ct.new (h5 h) hn⟩
      · refine List.Pairwise.imp_of_mem ?_ hJ.far
        intro x y hx hy h g hg1 hg2
        rw [Bx.at_up (hB' x hx)] at hg1
        rw [Bx.at_up (hB' y hy)] at hg2
        exact h g hg1 hg2
      · simp only [upF]
        by_cases hj : j = i
        · subst hj
          rw [ho] at ho'
          injection ho' with ho'
          subst ho'
          rw [hd] at hd'
          simp [hd']
        · have hne : ¬ (some d = some d') := fun e => hj (hdst j i o' o d ho' ho (by rw [hd', e]) hd)
          rw [if_neg hj, if_neg hne]
          exact hJ.set j o' d' ho' hd'
      · have hne : ¬ (some d = some d') := fun e => hd' i o ho (by rw [hd, e])
        simp only [upF]
        rw [if_neg hne]
        exact hJ.out d' hd'
    | mk x L R hw hx hL hR hox hd hst h hno =>
      refine .inl ⟨hw, ?_⟩
      refine Oper.wp_mono ?_ h
      rintro a' w' ⟨v, g, cs, rfl, hav, hg1, hg2, hn, hv, hb, hz, hct⟩
      refine ⟨v, rfl, ?_⟩
      have hfd : f x.p = none := by
        cases hf : f x.p with
        | none => rfl
        | some u =>
          have := (hJ.set i o x.p ho hd).2 (by rw [hf]; simp)
          rw [hbi] at this
          cases this
      have hothers : ∀ y ∈ L ++ R, ¬ (y.p = x.p ∧ y.old = none) ∧ ¬ y.st = i := by
        intro y hy
        have h1 : ¬ y.st = i := fun hh => by
          have := List.all_eq_true.1 hst y hy
          simp [hh] at this
        refine ⟨fun hh => ?_, h1⟩
        rcases List.mem_append.1 hy with hy | hy
        · have := List.all_eq_true.1 hL y hy
          simp [hh.1, hh.2] at this
        · have := List.all_eq_true.1 hR y hy
          simp [hh.1, hh.2] at this
      have hxat : x.at (upF (some x.p) v f) = some g := by
        unfold Bx.at
        rw [hox]
        simp [upF, hav]
      rw [hd]
      refine ⟨hJ.chg.new hn, fun d' v' h' => ?_, fun p hp => p.2.new (hJ.otr p hp) hn, fun y hy g' hg' => ?_, ?_, fun j o' d' ho' hd' => ?_, fun d' hd' => ?_, hcl⟩
      · simp only [upF] at h'
        split at h'
        · rename_i e
          injection e with e
          subst e
          injection h' with h'
          subst h'
          exact hv
        · exact (V d').new (hJ.typ d' v' h') hn
      · rw [hx] at hy
        by_cases hyx : y ∈ L ++ R
        · obtain ⟨q1, q2⟩ := hothers y hyx
          rw [Bx.at_up q1] at hg'
          have hyB : y ∈ B := by
            rw [hx]
            rcases List.mem_append.1 hyx with h | h <;> simp [h]
          obtain ⟨h1, h2, cs', h3, h4, h5⟩ := hJ.box y hyB g' hg'
          rw [if_neg q2]
          exact ⟨Nat.lt_of_lt_of_le h1 hn.size, h2, cs', h3.chg hn (fun h => h), h4, fun h => y.ct.new (h5 h) hn⟩
        · have hyx' : y = x := by
            rcases List.mem_append.1 hy with h | h
            · exact absurd (List.mem_append_left _ h) hyx
            · rcases List.mem_cons.1 h with h | h
              · exact h
              · exact absurd (List.mem_append_right _ h) hyx
          subst hyx'
          rw [hxat] at hg'
          injection hg' with hg'
          subst hg'
          refine ⟨hg2, fun _ => Nat.le_trans hJ.chg.size hg1, cs, hb, fun hh => ?_, fun hh => ?_⟩
          · by_cases e : y.st = i
            · rw [if_pos e] at hh; cases hh
            · exact hz e
          · by_cases e : y.st = i
            · exact hct e
            · rw [if_neg e, hno e] at hh
              cases hh
      · have hmem : ∀ y ∈ B, ∀ g', y.at f = some g' → g' < w.heap.size := fun y hy g' h' => (hJ.box y hy g' h').1
        have hfar' := hJ.far
        rw [hx] at hfar' ⊢
        have hsame : ∀ y ∈ L ++ R, y.at (upF (some x.p) v f) = y.at f := fun y hy => Bx.at_up (hothers y hy).1
        have hnew : ∀ y ∈ L ++ R, ∀ g', y.at f = some g' → g' ≠ g := fun y hy g' h' e => by
          have hyB : y ∈ B := by
            rw [hx]
            rcases List.mem_append.1 hy with h | h <;> simp [h]
          have := hmem y hyB g' h'
          omega
        rw [List.pairwise_append] at hfar' ⊢
        obtain ⟨f1, f2, f3⟩ := hfar'
        obtain ⟨f4, f5⟩ := List.pairwise_cons.1 f2
        refine ⟨f1.imp_of_mem ?_, List.pairwise_cons.2 ⟨fun y hy g' h1 h2 => ?_, f5.imp_of_mem ?_⟩, fun y hy z' hz' g' h1 h2 => ?_⟩
        · intro a b ha' hb' h g' h1 h2
          rw [hsame a (List.mem_append_left _ ha')] at h1
          rw [hsame b (List.mem_append_left _ hb')] at h2
          exact h g' h1 h2
        · rw [hxat] at h1
          injection h1 with h1
          rw [hsame y (List.mem_append_right _ hy)] at h2
          exact hnew y (List.mem_append_right _ hy) g' h2 h1.symm
        · intro a b ha' hb' h g' h1 h2
          rw [hsame a (List.mem_append_right _ ha')] at h1
          rw [hsame b (List.mem_append_right _ hb')] at h2
          exact h g' h1 h2
        · rw [hsame y (List.mem_append_left _ hy)] at h1
          rcases List.mem_cons.1 hz' with rfl | hz'
          · rw [hxat] at h2
            injection h2 with h2
            exact hnew y (List.mem_append_left _ hy) g' h1 h2.symm
          · rw [hsame z' (List.mem_append_right _ hz')] at h2
            exact f3 y hy z' (List.mem_cons_of_mem _ hz') g' h1 h2
      · simp only [upF]
        by_cases hj : j = i
        · subst hj
          rw [ho] at ho'
          injection ho' with ho'
          subst ho'
          rw [hd] at hd'
          simp [hd']
        · have hne : ¬ (some x.p = some d') := fun e => hj (hdst j i o' o x.p ho' ho (by rw [hd', e]) hd)
          rw [if_neg hj, if_neg hne]
          exact hJ.set j o' d' ho' hd'
      · have hne : ¬ (some x.p = some d') := fun e => hd' i o ho (by rw [hd, e])
        simp only [upF]
        rw [if_neg hne]
        exact hJ.out d' hd'
    | store x L R hw hx hst hoth hd hz hcb h hat =>
      refine .inl ⟨hw, ?_⟩
      obtain ⟨g, hg'⟩ := hat
      have hxB : x ∈ B := by rw [hx]; simp
      obtain ⟨h1, h2, cs0, h3, h4, h5⟩ := hJ.box x hxB g hg'
      have hcs := h4 (by rw [hst]; exact hbi)
      subst hcs
      refine Oper.wp_mono ?_ (h g hg' h3)
      rintro a' w' ⟨⟨v, rfl⟩, hch, cs, hb, hct⟩
      refine ⟨v, rfl, ?_⟩
      rw [hd]
      have hothers : ∀ y ∈ L ++ R, ¬ y.st = i := by
        intro y hy hh
        have := List.all_eq_true.1 hoth y hy
        simp [hh] at this
      have hfar' := hJ.far
      rw [hx, List.pairwise_append] at hfar'
      obtain ⟨f1, f2, f3⟩ := hfar'
      obtain ⟨f4, f5⟩ := List.pairwise_cons.1 f2
      have hne : ∀ y ∈ L ++ R, ∀ g', y.at f = some g' → g' ≠ g := by
        intro y hy g' hy' e
        subst e
        rcases List.mem_append.1 hy with h | h
        · exact f3 y h x (by simp) g' hy' hg'
        · exact f4 y h g' hg' hy'
      refine ⟨hJ.chg.trans hch (fun k hk e => ?_), fun d' v' h' => (V d').st (hJ.typ d' v' h') h3 hz hch, fun p hp => p.2.st (hJ.otr p hp) h3 hz hch, fun y hy g' hgy => ?_, hJ.far, fun j o' d' ho' hd' => ?_, hJ.out, hcl⟩
      · subst e
        cases hox : x.old with
        | some g2 =>
          have : x.at f = some g2 := by unfold Bx.at; rw [hox]
          rw [hg'] at this
          injection this with this
          subst this
          exact hcb _ hox
        | none =>
          have := h2 hox
          omega
      · by_cases hyx : y ∈ L ++ R
        · obtain ⟨q1, q2, cs', q3, q4, q5⟩ := hJ.box y (by rw [hx]; rcases List.mem_append.1 hyx with h | h <;> simp [h]) g' hgy
          rw [if_neg (hothers y hyx)]
          exact ⟨Nat.lt_of_lt_of_le q1 hch.size, q2, cs', q3.chg hch (fun e => hne y hyx g' hgy e), q4, fun h => y.ct.st (q5 h) h3 hz hch⟩
        · have hyx' : y = x := by
            rw [hx] at hy
            rcases List.mem_append.1 hy with h | h
            · exact absurd (List.mem_append_left _ h) hyx
            · rcases List.mem_cons.1 h with h | h
              · exact h
              · exact absurd (List.mem_append_right _ h) hyx
          subst hyx'
          have hgy : y.at f = some g' := hgy
          rw [hg'] at hgy
          injection hgy with hgy
          subst hgy
          rw [if_pos hst]
          exact ⟨Nat.lt_of_lt_of_le h1 hch.size, h2, cs, hb, fun h => (by cases h), fun _ => hct⟩
      · simp only [upF]
        by_cases hj : j = i
        · subst hj
          rw [ho] at ho'
          injection ho' with ho'
          subst ho'
          rw [hd] at hd'
          cases hd'
        · rw [if_neg hj]
          exact hJ.set j o' d' ho' hd'
end
end Go.Mem
