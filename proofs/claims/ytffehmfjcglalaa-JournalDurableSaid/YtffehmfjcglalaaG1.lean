/- The parts RegInv, Typed, TypedOps, TyW, TyOps2, TyOps3, Col of the proof, in one text. -/
import Derived.Test.YtffehmfjcglalaaMemMk
import Derived.Orders
import Derived.Test.YtffehmfjcglalaaMemRes
import Derived.IntWalk
import Derived.LoopN
set_option linter.unusedSimpArgs false
set_option linter.unusedVariables false

namespace Go.Mem
set_option linter.unusedVariables false
open Go.RowKit

/-- Temporaries, some of them written anew. -/
def upd (T : Array Value) (f : Nat → Option Value) : Array Value := T.mapIdx fun i x => (f i).getD x
def upF (dst : Option Tmp) (v : Value) (f : Nat → Option Value) : Nat → Option Value := fun i => if dst = some i then some v else f i
theorem upd_none (T : Array Value) : upd T (fun _ => none) = T := by
  unfold upd
  apply Array.ext
  · simp
  · intro i h1 h2; simp
theorem upd_put (T : Array Value) (f : Nat → Option Value) (dst : Option Tmp) (v : Value) (ds : List Deferred) : (Act.mk (upd T f) ds).put dst v = Act.mk (upd T (upF dst v f)) ds := by
  cases dst with
  | none =>
    show Act.mk (upd T f) ds = _
    congr 1
  | some d =>
    show Act.mk ((upd T f).setIfInBounds d v) ds = _
    congr 1
    unfold upd
    apply Array.ext
    · simp
    · intro i h1 h2
      have hi : i < T.size := by simpa using h2
      rw [Array.getElem_setIfInBounds (by simpa using hi), Array.getElem_mapIdx, Array.getElem_mapIdx]
      unfold upF
      by_cases h : d = i
      · simp [h]
      · simp [h]
theorem upd_eval (T : Array Value) (f : Nat → Option Value) (ds : List Deferred) (t : Tmp) (h : t < T.size) : (Act.mk (upd T f) ds).eval (.tmp t) = (f t).getD (T.getD t undef) := by
  show (upd T f).getD t undef = _
  unfold upd
  simp [Array.getD, h]

/-- The slots that are written, one after the other. -/
theorem foldl_sets (vs : Nat → Value) : ∀ (slots : List Nat) (T : Array Value) (i : Nat) (h : i < T.size), (slots.foldl (fun T s => T.setIfInBounds s (vs s)) T)[i]? = some (if i ∈ slots then vs i else T[i]) := by
  intro slots
  induction slots with
  | nil => intro T i h; simp [h]
  | cons s slots ih =>
    intro T i h
    rw [List.foldl_cons, ih _ i (by simpa using h)]
    by_cases h1 : i ∈ slots
    · simp [h1]
    · by_cases h2 : i = s
      · subst h2; simp [h1, h]
      · have h3 : ¬ s = i := fun e => h2 e.symm
        simp only [h1, List.mem_cons, h2, or_self, if_false]
        rw [Array.getElem_setIfInBounds h, if_neg h3]
theorem foldl_size (vs : Nat → Value) : ∀ (slots : List Nat) (T : Array Value), (slots.foldl (fun T s => T.setIfInBounds s (vs s)) T).size = T.size := by
  intro slots
  induction slots with
  | nil => intro T; rfl
  | cons s slots ih => intro T; rw [List.foldl_cons, ih]; simp
theorem upd_sets {T : Array Value} {f : Nat → Option Value} {slots : List Nat} (hn : ∀ i, i ∉ slots → f i = none) (hs : ∀ i, i ∈ slots → f i ≠ none) : upd T f = slots.foldl (fun T s => T.setIfInBounds s ((f s).getD undef)) T := by
  apply Array.ext'
  apply List.ext_getElem?
  intro i
  rw [Array.getElem?_toList, Array.getElem?_toList]
  rcases Nat.lt_or_ge i T.size with h | h
  · rw [foldl_sets (fun s => (f s).getD undef) slots T i h]
    unfold upd
    rw [Array.getElem?_mapIdx, Array.getElem?_eq_getElem h]
    by_cases hm : i ∈ slots
    · rw [if_pos hm]
      cases hf : f i with
      | none => exact absurd hf (hs i hm)
      | some v => simp [hf]
    · rw [if_neg hm]
      simp [hn i hm]
  · rw [Array.getElem?_eq_none (by unfold upd; simpa using h), Array.getElem?_eq_none (by rw [foldl_size]; exact h)]

theorem ready_mem {md : Region.Mode} {ops : Array Oper} {listed : Array Bool} {i : Nat} (h : i ∈ Region.ready md ops listed) : i < ops.size ∧ listed.getD i true = false ∧ ∃ o, ops[i]? = some o ∧ ∀ e ∈ o.after, Region.binds md e = true → listed.getD e.on false = true := by
  unfold Region.ready at h
  rw [List.mem_filter] at h
  obtain ⟨h1, h2⟩ := h
  have h1 : i < ops.size := by simpa using h1
  rw [Bool.and_eq_true] at h2
  obtain ⟨h2, h3⟩ := h2
  refine ⟨h1, ?_, ops[i], by simp [h1], ?_⟩
  · cases hx : listed.getD i true with
    | false => rfl
    | true => rw [hx] at h2; cases h2
  rw [Array.getElem?_eq_getElem h1] at h3
  simp only [Option.map_some, Option.getD_some] at h3
  intro e he hb
  have := (Array.all_eq_true_iff_forall_mem.1 h3) e he
  simpa [hb] using this
theorem ready_none {md : Region.Mode} {ops : Array Oper} {listed : Array Bool} (h : Region.ready md ops listed = []) {i : Nat} {o : Oper} (ho : ops[i]? = some o) (ha : ∀ e ∈ o.after, Region.binds md e = true → listed.getD e.on false = true) : listed.getD i true = true := by
  cases hl : listed.getD i true with
  | true => rfl
  | false =>
    exfalso
    have hi : i < ops.size := (Array.getElem?_eq_some_iff.1 ho).1
    have hm : i ∈ Region.ready md ops listed := by
      unfold Region.ready
      rw [List.mem_filter]
      refine ⟨by simpa using hi, ?_⟩
      rw [hl, ho]
      simp only [Bool.not_false, Bool.true_and, Option.map_some, Option.getD_some]
      rw [Array.all_eq_true_iff_forall_mem]
      intro e he
      cases hb : Region.binds md e with
      | false => simp
      | true => simpa using ha e he hb
    rw [h] at hm
    cases hm

section
variable {P : Program} {ops : Array Oper} {Q : Exit → Act → World → Prop} {md : Region.Mode} {T : Array Value} {ds : List Deferred}
/-- How many operations are left. -/
def left (listed : Array Bool) : Nat := listed.toList.countP (!·)
theorem left_set {listed : Array Bool} {i : Nat} (hi : listed.getD i true = false) : left (listed.setIfInBounds i true) + 1 ≤ left listed := by
  have hlt : i < listed.size := by
    rcases Nat.lt_or_ge i listed.size with h | h
    · exact h
    · simp [Array.getD, Nat.not_lt.2 h] at hi
  have hx : listed[i] = false := by simpa [Array.getD, hlt] using hi
  unfold left
  rw [Array.toList_setIfInBounds]
  have hl : i < listed.toList.length := by simpa using hlt
  have hx' : listed.toList[i] = false := by simpa using hx
  generalize listed.toList = L at *
  clear hi hx hlt
  induction L generalizing i with
  | nil => simp at hl
  | cons x L ih =>
    cases i with
    | zero => simp at hx'; subst hx'; simp
    | succ i =>
      have := ih (i := i) (by simpa using hl) (by simpa using hx')
      rw [List.set_cons_succ, List.countP_cons, List.countP_cons]
      omega

theorem wpAny_inv (J : (Nat → Bool) → (Nat → Option Value) → World → Prop)
    (hord : ∀ (i : Nat) (o : Oper), ops[i]? = some o → ∀ e ∈ o.after, e.on < i)
    (hdone : ∀ b f w, J b f w → (∀ i, i < ops.size → b i = true) → Q .normal ⟨upd T f, ds⟩ w)
    (hstep : ∀ (b : Nat → Bool) (f : Nat → Option Value) (w : World) (i : Nat) (o : Oper), J b f w → ops[i]? = some o → b i = false → (∀ e ∈ o.after, Region.binds md e = true → b e.on = true) →
      o.guard = none ∧ o.wp P ⟨upd T f, ds⟩ w (fun a' w' => ∃ v, a' = (Act.mk (upd T f) ds).put o.dst v ∧ J (fun k => if k = i then true else b k) (upF o.dst v f) w') Q) :
    ∀ (fuel : Nat) (listed : Array Bool) (f : Nat → Option Value) (w : World), listed.size = ops.size → left listed ≤ fuel → J (fun i => listed.getD i false) f w → wpAny P md ops Q fuel listed ⟨upd T f, ds⟩ w := by
  have hall : ∀ listed : Array Bool, listed.size = ops.size → Region.ready md ops listed = [] → ∀ i, i < ops.size → listed.getD i false = true := by
    intro listed hs hr i
    induction i using Nat.strongRecOn with
    | ind i ih =>
      intro hi
      have ho : ops[i]? = some ops[i] := Array.getElem?_eq_getElem hi
      have := ready_none hr ho (fun e he _ => ih e.on (hord i _ ho e he) (Nat.lt_trans (hord i _ ho e he) hi))
      simpa [Array.getD, hs, hi] using this
  intro fuel
  induction fuel with
  | zero =>
    intro listed f w hs hl hJ
    have hr : Region.ready md ops listed = [] := by
      cases h : Region.ready md ops listed with
      | nil => rfl
      | cons i t =>
        have hm : i ∈ Region.ready md ops listed := by rw [h]; simp
        have := left_set (ready_mem hm).2.1
        omega
    exact ⟨hr, hdone _ _ _ hJ (hall listed hs hr)⟩
  | succ fuel ih =>
    intro listed f w hs hl hJ
    refine ⟨fun hr => hdone _ _ _ hJ (hall listed hs hr), fun i hi => ?_⟩
    obtain ⟨h1, h2, o, ho, ha⟩ := ready_mem hi
    have hb : listed.getD i false = false := by
      simpa [Array.getD, hs, h1] using h2
    obtain ⟨hg, hw⟩ := hstep _ f w i o hJ ho hb ha
    unfold wpOp
    rw [ho]
    simp only
    rw [if_pos (by simp [Region.wanted, hg])]
    refine Or.inl (Oper.wp_mono ?_ hw)
    rintro a' w' ⟨v, rfl, hJ'⟩
    rw [upd_put]
    refine ih _ _ _ (by simpa using hs) (by have := left_set h2; omega) ?_
    have e : (fun k => (listed.setIfInBounds i true).getD k false) = (fun k => if k = i then true else listed.getD k false) := by
      funext k
      by_cases hk : k = i
      · subst hk; simp [Array.getD, hs, h1]
      · rw [if_neg hk]
        simp only [Array.getD_eq_getD_getElem?, Array.getElem?_setIfInBounds]
        rw [if_neg (fun e => hk e.symm)]
    rw [e]
    exact hJ'

theorem region_inv {id : Nat} {w : World} (hm : P.follows .mixedOrders = true) (J : (Nat → Bool) → (Nat → Option Value) → World → Prop)
    (hord : ∀ (i : Nat) (o : Oper), ops[i]? = some o → ∀ e ∈ o.after, e.on < i)
    (h0 : J (fun _ => false) (fun _ => none) w.drew)
    (hdone : ∀ b f w, J b f w → (∀ i, i < ops.size → b i = true) → Q .normal ⟨upd T f, ds⟩ w)
    (hstep : ∀ (b : Nat → Bool) (f : Nat → Option Value) (w : World) (i : Nat) (o : Oper), J b f w → ops[i]? = some o → b i = false → (∀ e ∈ o.after, Region.binds .any e = true → b e.on = true) →
      o.guard = none ∧ o.wp P ⟨upd T f, ds⟩ w (fun a' w' => ∃ v, a' = (Act.mk (upd T f) ds).put o.dst v ∧ J (fun k => if k = i then true else b k) (upF o.dst v f) w') Q) :
    (Code.region id ops true).wp P Q ⟨T, ds⟩ w := by
  refine wp_region_any hm ?_
  have h := wpAny_inv (P := P) (Q := Q) (md := .any) (T := T) (ds := ds) J hord hdone hstep ops.size (Array.replicate ops.size false) (fun _ => none) w.drew (by simp) (by unfold left; simp [List.countP_replicate]) (by
    have e : (fun i => (Array.replicate ops.size false).getD i false) = (fun _ => false) := by
      funext i
      simp only [Array.getD_eq_getD_getElem?, Array.getElem?_replicate]
      split <;> rfl
    rw [e]
    exact h0)
  rw [upd_none] at h
  exact h
end
end Go.Mem

namespace Go.Mem
set_option linter.unusedVariables false
open Go.RowKit

/-! ### the invariant law, for regions that draw and for regions in order, guards and all -/
section
variable {P : Program} {ops : Array Oper} {Q : Exit → Act → World → Prop} {md : Region.Mode} {T : Array Value} {ds : List Deferred}
/-- What one operation has to do for an invariant. -/
def OpOk (P : Program) (ops : Array Oper) (Q : Exit → Act → World → Prop) (T : Array Value) (ds : List Deferred) (I : (Nat → Bool) → (Nat → Option Value) → World → Prop) (b : Nat → Bool) (f : Nat → Option Value) (w : World) (i : Nat) (o : Oper) : Prop :=
  (Region.wanted o (yielded ops (upd T f)) = true ∧ o.wp P ⟨upd T f, ds⟩ w (fun a' w' => ∃ v, a' = (Act.mk (upd T f) ds).put o.dst v ∧ I (fun k => if k = i then true else b k) (upF o.dst v f) w') Q) ∨
  (Region.wanted o (yielded ops (upd T f)) = false ∧ I (fun k => if k = i then true else b k) (upF o.dst undef f) w)

theorem wpAny_inv2 (I : (Nat → Bool) → (Nat → Option Value) → World → Prop)
    (hord : ∀ (i : Nat) (o : Oper), ops[i]? = some o → ∀ e ∈ o.after, Region.binds md e = true → e.on < i)
    (hdone : ∀ b f w, I b f w → (∀ i, i < ops.size → b i = true) → Q .normal ⟨upd T f, ds⟩ w)
    (hstep : ∀ (b : Nat → Bool) (f : Nat → Option Value) (w : World) (i : Nat) (o : Oper), I b f w → ops[i]? = some o → b i = false → (∀ e ∈ o.after, Region.binds md e = true → b e.on = true) → OpOk P ops Q T ds I b f w i o) :
    ∀ (fuel : Nat) (listed : Array Bool) (f : Nat → Option Value) (w : World), listed.size = ops.size → left listed ≤ fuel → I (fun i => listed.getD i false) f w → wpAny P md ops Q fuel listed ⟨upd T f, ds⟩ w := by
  have hall : ∀ listed : Array Bool, listed.size = ops.size → Region.ready md ops listed = [] → ∀ i, i < ops.size → listed.getD i false = true := by
    intro listed hs hr i
    induction i using Nat.strongRecOn with
    | ind i ih =>
      intro hi
      have ho : ops[i]? = some ops[i] := Array.getElem?_eq_getElem hi
      have := ready_none hr ho (fun e he hbe => ih e.on (hord i _ ho e he hbe) (Nat.lt_trans (hord i _ ho e he hbe) hi))
      simpa [Array.getD, hs, hi] using this
  intro fuel
  induction fuel with
  | zero =>
    intro listed f w hs hl hJ
    have hr : Region.ready md ops listed = [] := by
      cases h : Region.ready md ops listed with
      | nil => rfl
      | cons i t =>
        have hm : i ∈ Region.ready md ops listed := by rw [h]; simp
        have := left_set (ready_mem hm).2.1
        omega
    exact ⟨hr, hdone _ _ _ hJ (hall listed hs hr)⟩
  | succ fuel ih =>
    intro listed f w hs hl hJ
    refine ⟨fun hr => hdone _ _ _ hJ (hall listed hs hr), fun i hi => ?_⟩
    obtain ⟨h1, h2, o, ho, ha⟩ := ready_mem hi
    have hb : listed.getD i false = false := by
      simpa [Array.getD, hs, h1] using h2
    have e : (fun k => (listed.setIfInBounds i true).getD k false) = (fun k => if k = i then true else listed.getD k false) := by
      funext k
      by_cases hk : k = i
      · subst hk; simp [Array.getD, hs, h1]
      · rw [if_neg hk]
        simp only [Array.getD_eq_getD_getElem?, Array.getElem?_setIfInBounds]
        rw [if_neg (fun e => hk e.symm)]
    unfold wpOp
    rw [ho]
    simp only
    rcases hstep _ f w i o hJ ho hb ha with ⟨hg, hw⟩ | ⟨hg, hw⟩
    · rw [if_pos hg]
      refine Or.inl (Oper.wp_mono ?_ hw)
      rintro a' w' ⟨v, rfl, hJ'⟩
      rw [upd_put]
      refine ih _ _ _ (by simpa using hs) (by have := left_set h2; omega) ?_
      rw [e]
      exact hJ'
    · rw [if_neg (by rw [hg]; simp)]
      rw [upd_put]
      refine ih _ _ _ (by simpa using hs) (by have := left_set h2; omega) ?_
      rw [e]
      exact hw

theorem wpOps_inv (I : (Nat → Bool) → (Nat → Option Value) → World → Prop)
    (hord : ∀ (i : Nat) (o : Oper), ops[i]? = some o → ∀ e ∈ o.after, Region.binds .any e = true → e.on < i)
    (hdone : ∀ b f w, I b f w → (∀ i, i < ops.size → b i = true) → Q .normal ⟨upd T f, ds⟩ w)
    (hstep : ∀ (b : Nat → Bool) (f : Nat → Option Value) (w : World) (i : Nat) (o : Oper), I b f w → ops[i]? = some o → b i = false → (∀ e ∈ o.after, Region.binds .any e = true → b e.on = true) → OpOk P ops Q T ds I b f w i o) :
    ∀ (m k : Nat) (f : Nat → Option Value) (w : World), k + m = ops.size → I (fun i => decide (i < k)) f w → wpOps P ops Q (List.range' k m) ⟨upd T f, ds⟩ w := by
  intro m
  induction m with
  | zero =>
    intro k f w hk hI
    exact hdone _ _ _ hI (fun i hi => by simp; omega)
  | succ m ih =>
    intro k f w hk hI
    have hlt : k < ops.size := by omega
    have ho : ops[k]? = some ops[k] := Array.getElem?_eq_getElem hlt
    rw [List.range'_succ]
    unfold wpOps
    rw [ho]
    simp only
    have e : (fun i => decide (i < k + 1)) = (fun i => if i = k then true else decide (i < k)) := by
      funext i
      by_cases h : i = k
      · subst h; simp
      · rw [if_neg h]
        by_cases h2 : i < k
        · have : i < k + 1 := by omega
          simp [h2, this]
        · have : ¬ i < k + 1 := by omega
          simp [h2, this]
    rcases hstep _ f w k _ hI ho (by simp) (fun e he hbe => by have := hord k _ ho e he hbe; simpa using this) with ⟨hg, hw⟩ | ⟨hg, hw⟩
    · rw [if_pos hg]
      refine Or.inl (Oper.wp_mono ?_ hw)
      rintro a' w' ⟨v, rfl, hJ'⟩
      rw [upd_put]
      refine ih _ _ _ (by omega) ?_
      rw [e]
      exact hJ'
    · rw [if_neg (by rw [hg]; simp)]
      rw [upd_put]
      refine ih _ _ _ (by omega) ?_
      rw [e]
      exact hw

theorem region_inv2 {id : Nat} {dr : Bool} {w : World} (hm : dr = true → P.follows .mixedOrders = true) (I : (Nat → Bool) → (Nat → Option Value) → World → Prop)
    (hord : ∀ (i : Nat) (o : Oper), ops[i]? = some o → ∀ e ∈ o.after, Region.binds .any e = true → e.on < i)
    (h0 : I (fun _ => false) (fun _ => none) w ∧ I (fun _ => false) (fun _ => none) w.drew)
    (hdone : ∀ b f w, I b f w → (∀ i, i < ops.size → b i = true) → Q .normal ⟨upd T f, ds⟩ w)
    (hstep : ∀ (b : Nat → Bool) (f : Nat → Option Value) (w : World) (i : Nat) (o : Oper), I b f w → ops[i]? = some o → b i = false → (∀ e ∈ o.after, Region.binds .any e = true → b e.on = true) → OpOk P ops Q T ds I b f w i o) :
    (Code.region id ops dr).wp P Q ⟨T, ds⟩ w := by
  cases dr with
  | true =>
    refine wp_region_any (hm rfl) ?_
    have h := wpAny_inv2 (P := P) (Q := Q) (md := .any) (T := T) (ds := ds) I hord hdone hstep ops.size (Array.replicate ops.size false) (fun _ => none) w.drew (by simp) (by unfold left; simp [List.countP_replicate]) (by
      have e : (fun i => (Array.replicate ops.size false).getD i false) = (fun _ => false) := by
        funext i
        simp only [Array.getD_eq_getD_getElem?, Array.getElem?_replicate]
        split <;> rfl
      rw [e]
      exact h0.2)
    rw [upd_none] at h
    exact h
  | false =>
    refine wp_region ?_
    have h := wpOps_inv (P := P) (Q := Q) (T := T) (ds := ds) I hord hdone hstep ops.size 0 (fun _ => none) w (by omega) (by
      have e : (fun i => decide (i < 0)) = (fun _ => false) := by
        funext i; simp
      rw [e]
      exact h0.1)
    rw [upd_none] at h
    rwa [List.range_eq_range']
end

/-- What a value is, in a world; kept by new memory, and by a store into a box whose cells are safe. -/
structure Ty where
  sat : Value → World → Prop
  new : ∀ {v w w'}, sat v w → New w w' → sat v w'
  st : ∀ {v w w' g t cs}, sat v w → Blk w g t cs → NoInt cs.toList → Chg (fun k => k = g) w w' → sat v w'
/-- What the cells of a block are. -/
structure CTy where
  sat : Array Value → World → Prop
  new : ∀ {v w w'}, sat v w → New w w' → sat v w'
  st : ∀ {v w w' g t cs}, sat v w → Blk w g t cs → NoInt cs.toList → Chg (fun k => k = g) w w' → sat v w'
def Ty.any : Ty := ⟨fun _ _ => True, fun _ _ => trivial, fun _ _ _ _ => trivial⟩
/-- That value. -/
def Ty.eq (c : Value) : Ty := ⟨fun v _ => v = c, fun h _ => h, fun h _ _ _ => h⟩
/-- A tuple. -/
def Ty.tup1 (a : Ty) (u : Value) : Ty := ⟨fun v w => ∃ x, v = .tuple #[x, u] ∧ a.sat x w, fun ⟨x, h1, h2⟩ hn => ⟨x, h1, a.new h2 hn⟩, fun ⟨x, h1, h2⟩ h3 h4 h5 => ⟨x, h1, a.st h2 h3 h4 h5⟩⟩
def Ty.tup2 (a b : Ty) (u : Value) : Ty := ⟨fun v w => ∃ x y, v = .tuple #[x, y, u] ∧ a.sat x w ∧ b.sat y w, fun ⟨x, y, h1, h2, h3⟩ hn => ⟨x, y, h1, a.new h2 hn, b.new h3 hn⟩, fun ⟨x, y, h1, h2, h2'⟩ h3 h4 h5 => ⟨x, y, h1, a.st h2 h3 h4 h5, b.st h2' h3 h4 h5⟩⟩
/-- The cells of one value; of two values in a row. -/
def Ty.c1 (a : Ty) : CTy := ⟨fun cs w => ∃ v, a.sat v w ∧ cs = v.cells, fun ⟨v, h1, h2⟩ hn => ⟨v, a.new h1 hn, h2⟩, fun ⟨v, h1, h2⟩ h3 h4 h5 => ⟨v, a.st h1 h3 h4 h5, h2⟩⟩
def Ty.c2 (a b : Ty) : CTy := ⟨fun cs w => ∃ v u, a.sat v w ∧ b.sat u w ∧ cs = v.cells ++ u.cells, fun ⟨v, u, h1, h2, h3⟩ hn => ⟨v, u, a.new h1 hn, b.new h2 hn, h3⟩, fun ⟨v, u, h1, h1', h2⟩ h3 h4 h5 => ⟨v, u, a.st h1 h3 h4 h5, b.st h1' h3 h4 h5, h2⟩⟩
/-- A slice that points to a block, in two words: the value's form. -/
def Ty.ptr : Ty := ⟨fun v _ => ∃ g, v = .pointer (some ⟨g, 0, none⟩), fun h _ => h, fun h _ _ _ => h⟩
def Ty.sl (n : Nat) : Ty := ⟨fun v _ => ∃ g, v = .slice (some ⟨g, 0, none⟩) n n, fun h _ => h, fun h _ _ _ => h⟩

/-- A call, by types. -/
def CT (P : Program) (f : Nat) (vs : Array Value) (w : World) (τ : Ty) : Prop := Calls P f vs w fun e w' => ∃ v, e = .returned v ∧ τ.sat v w' ∧ New w w'

/-- The block that an address lies in. -/
def adr : Value → Option Nat
  | .pointer (some a) => some a.block
  | .slice (some a) _ _ => some a.block
  | _ => none
/-- A box: the slot that holds its address (or the block, if it was there ahead of the region), its type, its cells at first, the operation that fills it, what it holds then. -/
structure Bx where
  p : Nat
  old : Option Nat
  t : TypeId
  z : Array Value
  st : Nat
  ct : CTy
def Bx.at (x : Bx) (f : Nat → Option Value) : Option Nat := match x.old with | some g => some g | none => (f x.p).bind adr

section
variable {P : Program} {ops : Array Oper} {Q : Exit → Act → World → Prop} {T : Array Value} {ds : List Deferred}

structure J (ops : Array Oper) (w0 : World) (CB : Nat → Prop) (O : List (Value × Ty)) (B : List Bx) (V : Nat → Ty) (b : Nat → Bool) (f : Nat → Option Value) (w : World) : Prop where
  chg : Chg CB w0 w
  typ : ∀ d v, f d = some v → (V d).sat v w
  otr : ∀ p ∈ O, p.2.sat p.1 w
  box : ∀ x ∈ B, ∀ g, x.at f = some g → g < w.heap.size ∧ (x.old = none → w0.heap.size ≤ g) ∧ ∃ cs, Blk w g x.t cs ∧ (b x.st = false → cs = x.z) ∧ (b x.st = true → x.ct.sat cs w)
  far : B.Pairwise (fun x y => ∀ g, x.at f = some g → y.at f ≠ some g)
  set : ∀ (i : Nat) (o : Oper) d, ops[i]? = some o → o.dst = some d → (b i = true ↔ f d ≠ none)
  out : ∀ d, (∀ (i : Nat) (o : Oper), ops[i]? = some o → o.dst ≠ some d) → f d = none
  cl : ∀ (i : Nat) (o : Oper), ops[i]? = some o → b i = true → ∀ e ∈ o.after, Region.binds .any e = true → b e.on = true

theorem J.typ0 {w0 : World} {CB : Nat → Prop} {O : List (Value × Ty)} {B : List Bx} {V : Nat → Ty} {b : Nat → Bool} {w : World} (h : J ops w0 CB O B V b (fun _ => none) w) : ∀ d v, (fun _ : Nat => (none : Option Value)) d = some v → (V d).sat v w.drew := fun d v h => (by cases h)
theorem J.box0 {w0 : World} {CB : Nat → Prop} {O : List (Value × Ty)} {B : List Bx} {V : Nat → Ty} {w : World} (h : J ops w0 CB O B V (fun _ => false) (fun _ => none) w) : ∀ x ∈ B, ∀ g, x.at (fun _ => none) = some g → g < w.drew.heap.size ∧ (x.old = none → w0.heap.size ≤ g) ∧ ∃ cs, Blk w.drew g x.t cs ∧ ((fun _ : Nat => false) x.st = false → cs = x.z) ∧ ((fun _ : Nat => false) x.st = true → x.ct.sat cs w.drew) := fun x hx g hg => by
  obtain ⟨h1, h2, cs, h3, h4, h5⟩ := h.box x hx g hg
  exact ⟨h1, h2, cs, Blk.drew h3, h4, fun h => (by cases h)⟩
theorem J.got {w0 : World} {CB : Nat → Prop} {O : List (Value × Ty)} {B : List Bx} {V : Nat → Ty} {b : Nat → Bool} {f : Nat → Option Value} {w : World} (h : J ops w0 CB O B V b f w) {i d : Nat} {o : Oper} (ho : ops[i]? = some o) (hd : o.dst = some d) (hb : b i = true) : ∃ v, f d = some v ∧ (V d).sat v w := by
  have h1 := (h.set i o d ho hd).1 hb
  cases hf : f d with
  | none => exact absurd hf h1
  | some v => exact ⟨v, rfl, h.typ d v hf⟩

/-- What a step has to show. -/
inductive Step (P : Program) (ops : Array Oper) (Q : Exit → Act → World → Prop) (w0 : World) (CB : Nat → Prop) (B : List Bx) (V : Nat → Ty) (b : Nat → Bool) (f : Nat → Option Value) (w : World) (a : Act) (i : Nat) (o : Oper) : Prop where
  | val (d : Nat) (hw : Region.wanted o (yielded ops a.tmps) = true) (hd : o.dst = some d) (hB : B.all (fun x => !(x.p == d && x.old.isNone)) = true) (hst : B.all (fun x => !(x.st == i)) = true)
      (h : o.wp P a w (fun a' w' => ∃ v, a' = a.put o.dst v ∧ New w w' ∧ (V d).sat v w') Q)
  | mk (x : Bx) (L R : List Bx) (hw : Region.wanted o (yielded ops a.tmps) = true) (hx : B = L ++ x :: R) (hL : L.all (fun y => !(y.p == x.p && y.old.isNone)) = true) (hR : R.all (fun y => !(y.p == x.p && y.old.isNone)) = true) (hold : x.old = none) (hd : o.dst = some x.p) (hst : (L ++ R).all (fun y => !(y.st == i)) = true)
      (h : o.wp P a w (fun a' w' => ∃ v g cs, a' = a.put o.dst v ∧ adr v = some g ∧ w.heap.size ≤ g ∧ g < w'.heap.size ∧ New w w' ∧ (V x.p).sat v w' ∧ Blk w' g x.t cs ∧ (¬ x.st = i → cs = x.z) ∧ (x.st = i → x.ct.sat cs w')) Q)
      (hno : ¬ x.st = i → b x.st = false)
  | skip (d : Nat) (hd : o.dst = some d) (hB : B.all (fun x => !(x.p == d && x.old.isNone)) = true) (hst : B.all (fun x => !(x.st == i)) = true) (hw : Region.wanted o (yielded ops a.tmps) = false) (h : (V d).sat undef w)
  | store (x : Bx) (L R : List Bx) (hw : Region.wanted o (yielded ops a.tmps) = true) (hx : B = L ++ x :: R) (hst : x.st = i) (hoth : (L ++ R).all (fun y => !(y.st == i)) = true) (hd : o.dst = none) (hz : NoInt x.z.toList) (hc : ∀ g, x.old = some g → CB g)
      (h : ∀ g, x.at f = some g → Blk w g x.t x.z → o.wp P a w (fun a' w' => (∃ v, a' = a.put o.dst v) ∧ Chg (fun k => k = g) w w' ∧ ∃ cs, Blk w' g x.t cs ∧ x.ct.sat cs w') Q)
      (hat : ∃ g, x.at f = some g)

theorem put_none (a : Act) (v : Value) : a.put none v = a := rfl
theorem Bx.at_up {x : Bx} {d : Nat} {v : Value} {f : Nat → Option Value} (h : ¬ (x.p = d ∧ x.old = none)) : x.at (upF (some d) v f) = x.at f := by
  unfold Bx.at
  cases ho : x.old with
  | some g => rfl
  | none =>
    have hp : ¬ x.p = d := fun e => h ⟨e, ho⟩
    have hp' : ¬ d = x.p := fun e => hp e.symm
    simp [upF, hp']
theorem bool_ne {a b : Bool} (h : a = false) (h' : a = true) : False := by rw [h] at h'; cases h'

theorem region_typed {id : Nat} {dr : Bool} {w0 : World} (hm : dr = true → P.follows .mixedOrders = true) (CB : Nat → Prop) (O : List (Value × Ty)) (B : List Bx) (V : Nat → Ty)
    (hord : ∀ (i : Nat) (o : Oper), ops[i]? = some o → ∀ e ∈ o.after, Region.binds .any e = true → e.on < i)
    (hdst : ∀ (i j : Nat) (o o' : Oper) d, ops[i]? = some o → ops[j]? = some o' → o.dst = some d → o'.dst = some d → i = j)
    (hO : ∀ p ∈ O, p.2.sat p.1 w0)
    (hold : ∀ x ∈ B, ∀ g, x.old = some g → Blk w0 g x.t x.z)
    (hfar : B.Pairwise (fun x y => ∀ g, x.old = some g → y.old ≠ some g))
    (hdone : ∀ b f w, J ops w0 CB O B V b f w → (∀ i, i < ops.size → b i = true) → Q .normal ⟨upd T f, ds⟩ w)
    (hstep : ∀ (b : Nat → Bool) (f : Nat → Option Value) (w : World) (i : Nat) (o : Oper), J ops w0 CB O B V b f w → ops[i]? = some o → b i = false → (∀ e ∈ o.after, Region.binds .any e = true → b e.on = true) →
      Step P ops Q w0 CB B V b f w ⟨upd T f, ds⟩ i o) :
    (Code.region id ops dr).wp P Q ⟨T, ds⟩ w0 := by
  have start : J ops w0 CB O B V (fun _ => false) (fun _ => none) w0 := by
    refine ⟨(Chg.refl _ _), fun d v h => (by cases h), hO, fun x hx g hg => ?_, ?_, fun i o d _ _ => by simp, fun _ _ => rfl, fun i o _ h => (by cases h)⟩
    · unfold Bx.at at hg
      cases ho : x.old with
      | none => rw [ho] at hg; simp at hg
      | some g' =>
        rw [ho] at hg
        injection hg with hg
        subst hg
        have hb := hold x hx g' ho
        exact ⟨hb.lt, fun h => (by cases h), x.z, hb, fun _ => rfl, fun h => (by cases h)⟩
    · refine hfar.imp (fun {x y} h g hx hy => ?_)
      unfold Bx.at at hx hy
      cases hox : x.old with
      | none => rw [hox] at hx; simp at hx
      | some g1 =>
        cases hoy : y.old with
        | none => rw [hoy] at hy; simp at hy
        | some g2 =>
          rw [hox] at hx
          rw [hoy] at hy
          injection hx with hx
          injection hy with hy
          exact h g (by rw [hox, hx]) (by rw [hoy, hy])
  refine region_inv2 hm (J ops w0 CB O B V) hord ⟨start, ⟨start.chg.drew, start.typ0, fun p hp => p.2.new (start.otr p hp) (Chg.refl _ _).drew, start.box0, start.far, start.set, start.out, start.cl⟩⟩ hdone ?_
  · intro b f w i o hJ ho hbi ha
    have hs := hstep b f w i o hJ ho hbi ha
    have hcl : ∀ (j : Nat) (o' : Oper), ops[j]? = some o' → (if j = i then true else b j) = true → ∀ e ∈ o'.after, Region.binds .any e = true → (if e.on = i then true else b e.on) = true := by
      intro j o' ho' hb e he hbe
      split
      · rfl
      · by_cases hj : j = i
        · subst hj
          rw [ho] at ho'
          injection ho' with ho'
          subst ho'
          exact ha e he hbe
        · rw [if_neg hj] at hb
          exact hJ.cl j o' ho' hb e he hbe
    cases hs with
    | val d hw hd hB hst h =>
      refine .inl ⟨hw, ?_⟩
      refine Oper.wp_mono ?_ h
      rintro a' w' ⟨v, rfl, hn, hv⟩
      refine ⟨v, rfl, ?_⟩
      have hB' : ∀ x ∈ B, ¬ (x.p = d ∧ x.old = none) := fun x hx hh => by
        have := List.all_eq_true.1 hB x hx
        simp [hh.1, hh.2] at this
      have hst' : ∀ x ∈ B, ¬ x.st = i := fun x hx hh => by
        have := List.all_eq_true.1 hst x hx
        simp [hh] at this
      rw [hd]
      refine ⟨hJ.chg.new hn, fun d' v' h' => ?_, fun p hp => p.2.new (hJ.otr p hp) hn, fun x hx g hg' => ?_, ?_, fun j o' d' ho' hd' => ?_, fun d' hd' => ?_, hcl⟩
      · simp only [upF] at h'
        split at h'
        · rename_i e
          injection e with e
          subst e
          injection h' with h'
          subst h'
          exact hv
        · exact (V d').new (hJ.typ d' v' h') hn
      · rw [Bx.at_up (hB' x hx)] at hg'
        obtain ⟨h1, h2, cs, h3, h4, h5⟩ := hJ.box x hx g hg'
        rw [if_neg (hst' x hx)]
        exact ⟨Nat.lt_of_lt_of_le h1 hn.size, h2, cs, h3.chg hn (fun h => h), h4, fun h => x.ct.new (h5 h) hn⟩
      · refine List.Pairwise.imp_of_mem ?_ hJ.far
        intro x y hx hy h g hg1 hg2
        rw [Bx.at_up (hB' x hx)] at hg1
        rw [Bx.at_up (hB' y hy)] at hg2
        exact h g hg1 hg2
      · simp only [upF]
        by_cases hj : j = i
        · subst hj
          rw [ho] at ho'
          injection ho' with ho'
          subst ho'
          rw [hd] at hd'
          simp [hd']
        · have hne : ¬ (some d = some d') := fun e => hj (hdst j i o' o d ho' ho (by rw [hd', e]) hd)
          rw [if_neg hj, if_neg hne]
          exact hJ.set j o' d' ho' hd'
      · have hne : ¬ (some d = some d') := fun e => hd' i o ho (by rw [hd, e])
        simp only [upF]
        rw [if_neg hne]
        exact hJ.out d' hd'
    | skip d hd hB hst hw hv =>
      refine .inr ⟨hw, ?_⟩
      obtain ⟨v, hvv⟩ : ∃ v, undef = v := ⟨_, rfl⟩
      rw [hvv] at hv ⊢
      have hn : New w w := Chg.refl _ _
      have hB' : ∀ x ∈ B, ¬ (x.p = d ∧ x.old = none) := fun x hx hh => by
        have := List.all_eq_true.1 hB x hx
        simp [hh.1, hh.2] at this
      have hst' : ∀ x ∈ B, ¬ x.st = i := fun x hx hh => by
        have := List.all_eq_true.1 hst x hx
        simp [hh] at this
      rw [hd]
      refine ⟨hJ.chg.new hn, fun d' v' h' => ?_, fun p hp => p.2.new (hJ.otr p hp) hn, fun x hx g hg' => ?_, ?_, fun j o' d' ho' hd' => ?_, fun d' hd' => ?_, hcl⟩
      · simp only [upF] at h'
        split at h'
        · rename_i e
          injection e with e
          subst e
          injection h' with h'
          subst h'
          exact hv
        · exact (V d').new (hJ.typ d' v' h') hn
      · rw [Bx.at_up (hB' x hx)] at hg'
        obtain ⟨h1, h2, cs, h3, h4, h5⟩ := hJ.box x hx g hg'
        rw [if_neg (hst' x hx)]
        exact ⟨Nat.lt_of_lt_of_le h1 hn.size, h2, cs, h3.chg hn (fun h => h), h4, fun h => x.ct.new (h5 h) hn⟩
      · refine List.Pairwise.imp_of_mem ?_ hJ.far
        intro x y hx hy h g hg1 hg2
        rw [Bx.at_up (hB' x hx)] at hg1
        rw [Bx.at_up (hB' y hy)] at hg2
        exact h g hg1 hg2
      · simp only [upF]
        by_cases hj : j = i
        · subst hj
          rw [ho] at ho'
          injection ho' with ho'
          subst ho'
          rw [hd] at hd'
          simp [hd']
        · have hne : ¬ (some d = some d') := fun e => hj (hdst j i o' o d ho' ho (by rw [hd', e]) hd)
          rw [if_neg hj, if_neg hne]
          exact hJ.set j o' d' ho' hd'
      · have hne : ¬ (some d = some d') := fun e => hd' i o ho (by rw [hd, e])
        simp only [upF]
        rw [if_neg hne]
        exact hJ.out d' hd'
    | mk x L R hw hx hL hR hox hd hst h hno =>
      refine .inl ⟨hw, ?_⟩
      refine Oper.wp_mono ?_ h
      rintro a' w' ⟨v, g, cs, rfl, hav, hg1, hg2, hn, hv, hb, hz, hct⟩
      refine ⟨v, rfl, ?_⟩
      have hfd : f x.p = none := by
        cases hf : f x.p with
        | none => rfl
        | some u =>
          have := (hJ.set i o x.p ho hd).2 (by rw [hf]; simp)
          rw [hbi] at this
          cases this
      have hothers : ∀ y ∈ L ++ R, ¬ (y.p = x.p ∧ y.old = none) ∧ ¬ y.st = i := by
        intro y hy
        have h1 : ¬ y.st = i := fun hh => by
          have := List.all_eq_true.1 hst y hy
          simp [hh] at this
        refine ⟨fun hh => ?_, h1⟩
        rcases List.mem_append.1 hy with hy | hy
        · have := List.all_eq_true.1 hL y hy
          simp [hh.1, hh.2] at this
        · have := List.all_eq_true.1 hR y hy
          simp [hh.1, hh.2] at this
      have hxat : x.at (upF (some x.p) v f) = some g := by
        unfold Bx.at
        rw [hox]
        simp [upF, hav]
      rw [hd]
      refine ⟨hJ.chg.new hn, fun d' v' h' => ?_, fun p hp => p.2.new (hJ.otr p hp) hn, fun y hy g' hg' => ?_, ?_, fun j o' d' ho' hd' => ?_, fun d' hd' => ?_, hcl⟩
      · simp only [upF] at h'
        split at h'
        · rename_i e
          injection e with e
          subst e
          injection h' with h'
          subst h'
          exact hv
        · exact (V d').new (hJ.typ d' v' h') hn
      · rw [hx] at hy
        by_cases hyx : y ∈ L ++ R
        · obtain ⟨q1, q2⟩ := hothers y hyx
          rw [Bx.at_up q1] at hg'
          have hyB : y ∈ B := by
            rw [hx]
            rcases List.mem_append.1 hyx with h | h <;> simp [h]
          obtain ⟨h1, h2, cs', h3, h4, h5⟩ := hJ.box y hyB g' hg'
          rw [if_neg q2]
          exact ⟨Nat.lt_of_lt_of_le h1 hn.size, h2, cs', h3.chg hn (fun h => h), h4, fun h => y.ct.new (h5 h) hn⟩
        · have hyx' : y = x := by
            rcases List.mem_append.1 hy with h | h
            · exact absurd (List.mem_append_left _ h) hyx
            · rcases List.mem_cons.1 h with h | h
              · exact h
              · exact absurd (List.mem_append_right _ h) hyx
          subst hyx'
          rw [hxat] at hg'
          injection hg' with hg'
          subst hg'
          refine ⟨hg2, fun _ => Nat.le_trans hJ.chg.size hg1, cs, hb, fun hh => ?_, fun hh => ?_⟩
          · by_cases e : y.st = i
            · rw [if_pos e] at hh; cases hh
            · exact hz e
          · by_cases e : y.st = i
            · exact hct e
            · rw [if_neg e, hno e] at hh
              cases hh
      · have hmem : ∀ y ∈ B, ∀ g', y.at f = some g' → g' < w.heap.size := fun y hy g' h' => (hJ.box y hy g' h').1
        have hfar' := hJ.far
        rw [hx] at hfar' ⊢
        have hsame : ∀ y ∈ L ++ R, y.at (upF (some x.p) v f) = y.at f := fun y hy => Bx.at_up (hothers y hy).1
        have hnew : ∀ y ∈ L ++ R, ∀ g', y.at f = some g' → g' ≠ g := fun y hy g' h' e => by
          have hyB : y ∈ B := by
            rw [hx]
            rcases List.mem_append.1 hy with h | h <;> simp [h]
          have := hmem y hyB g' h'
          omega
        rw [List.pairwise_append] at hfar' ⊢
        obtain ⟨f1, f2, f3⟩ := hfar'
        obtain ⟨f4, f5⟩ := List.pairwise_cons.1 f2
        refine ⟨f1.imp_of_mem ?_, List.pairwise_cons.2 ⟨fun y hy g' h1 h2 => ?_, f5.imp_of_mem ?_⟩, fun y hy z' hz' g' h1 h2 => ?_⟩
        · intro a b ha' hb' h g' h1 h2
          rw [hsame a (List.mem_append_left _ ha')] at h1
          rw [hsame b (List.mem_append_left _ hb')] at h2
          exact h g' h1 h2
        · rw [hxat] at h1
          injection h1 with h1
          rw [hsame y (List.mem_append_right _ hy)] at h2
          exact hnew y (List.mem_append_right _ hy) g' h2 h1.symm
        · intro a b ha' hb' h g' h1 h2
          rw [hsame a (List.mem_append_right _ ha')] at h1
          rw [hsame b (List.mem_append_right _ hb')] at h2
          exact h g' h1 h2
        · rw [hsame y (List.mem_append_left _ hy)] at h1
          rcases List.mem_cons.1 hz' with rfl | hz'
          · rw [hxat] at h2
            injection h2 with h2
            exact hnew y (List.mem_append_left _ hy) g' h1 h2.symm
          · rw [hsame z' (List.mem_append_right _ hz')] at h2
            exact f3 y hy z' (List.mem_cons_of_mem _ hz') g' h1 h2
      · simp only [upF]
        by_cases hj : j = i
        · subst hj
          rw [ho] at ho'
          injection ho' with ho'
          subst ho'
          rw [hd] at hd'
          simp [hd']
        · have hne : ¬ (some x.p = some d') := fun e => hj (hdst j i o' o x.p ho' ho (by rw [hd', e]) hd)
          rw [if_neg hj, if_neg hne]
          exact hJ.set j o' d' ho' hd'
      · have hne : ¬ (some x.p = some d') := fun e => hd' i o ho (by rw [hd, e])
        simp only [upF]
        rw [if_neg hne]
        exact hJ.out d' hd'
    | store x L R hw hx hst hoth hd hz hcb h hat =>
      refine .inl ⟨hw, ?_⟩
      obtain ⟨g, hg'⟩ := hat
      have hxB : x ∈ B := by rw [hx]; simp
      obtain ⟨h1, h2, cs0, h3, h4, h5⟩ := hJ.box x hxB g hg'
      have hcs := h4 (by rw [hst]; exact hbi)
      subst hcs
      refine Oper.wp_mono ?_ (h g hg' h3)
      rintro a' w' ⟨⟨v, rfl⟩, hch, cs, hb, hct⟩
      refine ⟨v, rfl, ?_⟩
      rw [hd]
      have hothers : ∀ y ∈ L ++ R, ¬ y.st = i := by
        intro y hy hh
        have := List.all_eq_true.1 hoth y hy
        simp [hh] at this
      have hfar' := hJ.far
      rw [hx, List.pairwise_append] at hfar'
      obtain ⟨f1, f2, f3⟩ := hfar'
      obtain ⟨f4, f5⟩ := List.pairwise_cons.1 f2
      have hne : ∀ y ∈ L ++ R, ∀ g', y.at f = some g' → g' ≠ g := by
        intro y hy g' hy' e
        subst e
        rcases List.mem_append.1 hy with h | h
        · exact f3 y h x (by simp) g' hy' hg'
        · exact f4 y h g' hg' hy'
      refine ⟨hJ.chg.trans hch (fun k hk e => ?_), fun d' v' h' => (V d').st (hJ.typ d' v' h') h3 hz hch, fun p hp => p.2.st (hJ.otr p hp) h3 hz hch, fun y hy g' hgy => ?_, hJ.far, fun j o' d' ho' hd' => ?_, hJ.out, hcl⟩
      · subst e
        cases hox : x.old with
        | some g2 =>
          have : x.at f = some g2 := by unfold Bx.at; rw [hox]
          rw [hg'] at this
          injection this with this
          subst this
          exact hcb _ hox
        | none =>
          have := h2 hox
          omega
      · by_cases hyx : y ∈ L ++ R
        · obtain ⟨q1, q2, cs', q3, q4, q5⟩ := hJ.box y (by rw [hx]; rcases List.mem_append.1 hyx with h | h <;> simp [h]) g' hgy
          rw [if_neg (hothers y hyx)]
          exact ⟨Nat.lt_of_lt_of_le q1 hch.size, q2, cs', q3.chg hch (fun e => hne y hyx g' hgy e), q4, fun h => y.ct.st (q5 h) h3 hz hch⟩
        · have hyx' : y = x := by
            rw [hx] at hy
            rcases List.mem_append.1 hy with h | h
            · exact absurd (List.mem_append_left _ h) hyx
            · rcases List.mem_cons.1 h with h | h
              · exact h
              · exact absurd (List.mem_append_right _ h) hyx
          subst hyx'
          have hgy : y.at f = some g' := hgy
          rw [hg'] at hgy
          injection hgy with hgy
          subst hgy
          rw [if_pos hst]
          exact ⟨Nat.lt_of_lt_of_le h1 hch.size, h2, cs, hb, fun h => (by cases h), fun _ => hct⟩
      · simp only [upF]
        by_cases hj : j = i
        · subst hj
          rw [ho] at ho'
          injection ho' with ho'
          subst ho'
          rw [hd] at hd'
          cases hd'
        · rw [if_neg hj]
          exact hJ.set j o' d' ho' hd'
end
end Go.Mem

namespace Go.Mem
set_option linter.unusedVariables false
open Go.RowKit
section
variable {P : Program} {o : Oper} {a : Act} {w w' : World} {K : Act → World → Prop} {Q : Exit → Act → World → Prop} {v : Value}
theorem wp_val (h : (execOp a.eval o).run P w = .ok (.value v) w') (hk : K (a.put o.dst v) w') : o.wp P a w K Q := by
  unfold Oper.wp
  rw [h]
  exact hk
theorem wp_skp (h : (execOp a.eval o).run P w = .ok .skip w') (hk : K (a.put o.dst undef) w') : o.wp P a w K Q := by
  unfold Oper.wp
  rw [h]
  exact hk
theorem ex_move {x : Operand} (h : o.op = .move x ∨ o.op = .assign x) (hx : a.eval x = v) : (execOp a.eval o).run P w = .ok (.value v) w := by
  rcases h with h | h <;> simp [execOp, h, hx, Sem.run_pure]
theorem ex_load {ty : TypeId} {x : Operand} {ad : Addr} (h : o.op = .load ty x) (hx : a.eval x = .pointer (some ad)) (hl : (loadVar ty ad).run P w = .ok v w) : (execOp a.eval o).run P w = .ok (.value v) w := by
  simp [execOp, h, Instr.loadAt, Instr.sureAddr, hx, hl, Result.andThen]
theorem ex_store {ty : TypeId} {x y : Operand} {ad : Addr} (h : o.op = .store ty x y) (hx : a.eval x = .pointer (some ad)) (hy : a.eval y = v) (hl : (storeVar ty ad v).run P w = .ok () w') : (execOp a.eval o).run P w = .ok .skip w' := by
  simp [execOp, h, Instr.storeAt, Instr.sureAddr, hx, hy, hl, Result.andThen]
theorem ex_alloc {ty : TypeId} {z : Value} (h : o.op = .alloc ty) (hz : (zeroValue ty).run P w = .ok z w) : (execOp a.eval o).run P w = .ok (.value (.pointer (some ⟨w.heap.size, 0, none⟩))) (w.alloc (.cells z.cells ty)) := by
  simp [execOp, h, Instr.alloc, hz, newVar, newRow, Result.andThen]
theorem ex_box {ty : TypeId} {x : Operand} (h : o.op = .box ty x) (hx : a.eval x = v) : (execOp a.eval o).run P w = .ok (.value (.pointer (some ⟨w.heap.size, 0, none⟩))) (w.alloc (.cells v.cells ty)) := by
  simp [execOp, h, Instr.box, hx, newVar, newRow, Result.andThen]
theorem ex_extract {x : Operand} {i : Nat} {vs : Array Value} (h : o.op = .extract x i) (hx : a.eval x = .tuple vs) (hv : vs[i]? = some v) : (execOp a.eval o).run P w = .ok (.value v) w := by
  simp [execOp, h, Instr.extract, hx, hv, Result.andThen]
theorem ex_build {ty : TypeId} {ps : Array (Nat × Operand)} {vs : Array (Nat × Value)} (h : o.op = .build ty ps) (hp : ps.map (fun x => (x.1, a.eval x.2)) = vs) (hr : (Instr.build ty vs).run P w = .ok v w) : (execOp a.eval o).run P w = .ok (.value v) w := by
  simp [execOp, h, hp, hr, Result.andThen]
theorem ex_lit {ty : TypeId} {n : Nat} {ps : Array (Nat × Operand)} {vs : Array (Nat × Value)} (h : o.op = .buildSlice ty n ps) (hp : ps.map (fun x => (x.1, a.eval x.2)) = vs) (hr : (Instr.buildSlice ty n vs).run P w = .ok v w') : (execOp a.eval o).run P w = .ok (.value v) w' := by
  simp [execOp, h, hp, hr, Result.andThen]
theorem ex_field {s : TypeId} {x : Operand} {f : Nat} {p : Value} (h : o.op = .fieldAddr s x f) (hx : a.eval x = p) (hr : (Instr.fieldAt s p f).run P w = .ok v w) : (execOp a.eval o).run P w = .ok (.value v) w := by
  simp [execOp, h, hx, hr, Result.andThen]
theorem ex_index {t : TypeId} {x y : Operand} {p i : Value} (h : o.op = .indexAddr t x y) (hx : a.eval x = p) (hy : a.eval y = i) (hr : (Instr.indexAt t p i).run P w = .ok v w) : (execOp a.eval o).run P w = .ok (.value v) w := by
  simp [execOp, h, hx, hy, hr, Result.andThen]
theorem wp_callT {f : Nat} {args : Array Operand} {tys : Array TypeId} {vs : Array Value} {τ : Ty} (h : o.op = .call { callee := .value (.func f), args := args, argTypes := tys }) (ha : args.map a.eval = vs) (he : ∀ w, (callFunc f vs).run P w = .ok (.enter f vs) w)
    (hc : CT P f vs w τ) : o.wp P a w (fun a' w' => ∃ v, a' = a.put o.dst v ∧ New w w' ∧ τ.sat v w') Q := by
  unfold Oper.wp execOp
  rw [h]
  have hev : a.eval (.func f) = .func (.func f) #[] #[] := rfl
  simp [resolve, invoke, hev, ha, he, Oper.upon, go_sem]
  refine hc.mono ?_
  rintro e w' ⟨v, rfl, h1, h2⟩
  exact ⟨v, rfl, h2, h1⟩
/-- A store of a whole struct into a box. -/
theorem store_agg {ty t : TypeId} {g : Nat} {old cs : Array Value} {n : Nat} (hA : Agg P ty n) (hb : Blk w g t old) (ho : old.size = n) (hc : cs.size = n) (h1 : cs.all (·.oneCell') = true) :
    ∃ w', (storeVar ty ⟨g, 0, none⟩ (.agg cs)).run P w = .ok () w' ∧ Chg (fun k => k = g) w w' ∧ Blk w' g t cs := by
  obtain ⟨d, hu, hd, hi⟩ := hA
  have hr := run_storeVar_row (P := P) w g t ty old cs hb (by rw [hi, hc]) (by rw [ho, hc]) h1
  refine ⟨_, hr, ⟨rfl, rfl, rfl, by simp [World.setRow], fun k hk hne => setRow_other w g k cs hne⟩, ?_⟩
  exact setRow_heap w g old cs t (0, 0) hb
end
end Go.Mem

namespace Go.Mem
set_option linter.unusedVariables false
open Go.RowKit

/-- A region's operations look as a region's do: edges lead back, no slot is written twice, all slots that are written are listed. -/
def chk (ops : Array Oper) (D : List Nat) : Bool := (List.range ops.size).all fun i => match ops[i]? with
  | none => true
  | some o => o.after.all (fun e => !Region.binds .any e || decide (e.on < i)) && (match o.dst with
    | none => true
    | some d => D.contains d && (List.range i).all fun j => match ops[j]? with | none => true | some o' => !(o'.dst == some d))
section
variable {P : Program} {ops : Array Oper} {D : List Nat} {Q : Exit → Act → World → Prop}
theorem chk_at (h : chk ops D = true) {i : Nat} {o : Oper} (ho : ops[i]? = some o) : o.after.all (fun e => !Region.binds .any e || decide (e.on < i)) = true ∧ (match o.dst with
    | none => true
    | some d => D.contains d && (List.range i).all fun j => match ops[j]? with | none => true | some o' => !(o'.dst == some d)) = true := by
  have hi := (Array.getElem?_eq_some_iff.1 ho).1
  have := List.all_eq_true.1 h i (by simpa using hi)
  rw [ho] at this
  simpa [Bool.and_eq_true] using this
theorem chk_ord (h : chk ops D = true) : ∀ (i : Nat) (o : Oper), ops[i]? = some o → ∀ e ∈ o.after, Region.binds .any e = true → e.on < i := fun i o ho e he hb => by
  have := Array.all_eq_true_iff_forall_mem.1 (chk_at h ho).1 e he
  rw [hb] at this
  simpa using this
theorem chk_in (h : chk ops D = true) (i : Nat) (o : Oper) (d : Nat) (ho : ops[i]? = some o) (hd : o.dst = some d) : d ∈ D := by
  have := (chk_at h ho).2
  rw [hd] at this
  simp only [Bool.and_eq_true] at this
  simpa using this.1
theorem chk_lt (h : chk ops D = true) {i j : Nat} {o o' : Oper} {d : Nat} (ho : ops[i]? = some o) (ho' : ops[j]? = some o') (hd : o.dst = some d) (hd' : o'.dst = some d) (hj : j < i) : False := by
  have := (chk_at h ho).2
  rw [hd] at this
  simp only [Bool.and_eq_true] at this
  have := List.all_eq_true.1 this.2 j (by simpa using hj)
  rw [ho'] at this
  simp [hd'] at this
theorem chk_dst (h : chk ops D = true) : ∀ (i j : Nat) (o o' : Oper) d, ops[i]? = some o → ops[j]? = some o' → o.dst = some d → o'.dst = some d → i = j := fun i j o o' d ho ho' hd hd' => by
  rcases Nat.lt_trichotomy i j with hl | he | hg
  · exact (chk_lt h ho' ho hd' hd hl).elim
  · exact he
  · exact (chk_lt h ho ho' hd hd' hg).elim

/-- c is the frame a with the slots of f written anew. -/
structure Fr (a c : Act) (f : Nat → Option Value) : Prop where
  ev : ∀ t, t < a.tmps.size → c.eval (.tmp t) = (f t).getD (a.eval (.tmp t))
  size : c.tmps.size = a.tmps.size
  defers : c.defers = a.defers
theorem Fr.in {a c : Act} {f : Nat → Option Value} (h : Fr a c f) {t : Nat} {v : Value} (ht : t < a.tmps.size) (hf : f t = some v) : c.eval (.tmp t) = v := by rw [h.ev t ht, hf]; rfl
theorem Fr.out {a c : Act} {f : Nat → Option Value} (h : Fr a c f) {t : Nat} {v : Value} (ht : t < a.tmps.size) (hf : f t = none) (hv : a.eval (.tmp t) = v) : c.eval (.tmp t) = v := by rw [h.ev t ht, hf, hv]; rfl

/-- Operation i is x, writes slot d, is guarded by g, and waits for others. -/
def IsO (ops : Array Oper) (i : Nat) (d : Option Nat) (x : Op) (g : Option (Nat × Bool)) (deps : List Nat) : Prop := ∃ o, ops[i]? = some o ∧ o.op = x ∧ o.dst = d ∧ o.guard = g ∧ ∀ k ∈ deps, ∃ e ∈ o.after, Region.binds .any e = true ∧ e.on = k
theorem IsO.of {i : Nat} {d : Option Nat} {x : Op} {g : Option (Nat × Bool)} {deps : List Nat} (o : Oper) (ho : ops[i]? = some o) (h1 : o.op = x) (h2 : o.dst = d) (h3 : o.guard = g) (h4 : (deps.all fun k => o.after.any fun e => Region.binds .any e && e.on == k) = true) : IsO ops i d x g deps := by
  refine ⟨o, ho, h1, h2, h3, fun k hk => ?_⟩
  have h5 := List.all_eq_true.1 h4 k hk
  obtain ⟨i, hi, h6⟩ := Array.any_eq_true.1 h5
  rw [Bool.and_eq_true] at h6
  exact ⟨o.after[i], Array.getElem_mem hi, h6.1, by simpa using h6.2⟩
def nthL : List Oper → Nat → Option Oper
  | [], _ => none
  | a :: _, 0 => some a
  | _ :: l, n + 1 => nthL l n
theorem nthL_eq : ∀ (l : List Oper) (i : Nat), nthL l i = l[i]?
  | [], i => by simp [nthL]
  | a :: l, 0 => by simp [nthL]
  | a :: l, n + 1 => by simp [nthL, nthL_eq l n]
theorem IsO.mk' {l : List Oper} (hops : ops = l.toArray) (i : Nat) (o : Oper) (ho : nthL l i = some o) (deps : List Nat) (h4 : (deps.all fun k => o.after.any fun e => Region.binds .any e && e.on == k) = true) : IsO ops i o.dst o.op o.guard deps := by
  subst hops
  exact IsO.of o (by rw [← ho, nthL_eq]; simp) rfl rfl rfl h4
theorem IsO.get {i : Nat} {d : Option Nat} {x : Op} {g : Option (Nat × Bool)} {deps : List Nat} (h : IsO ops i d x g deps) {o : Oper} (ho : ops[i]? = some o) {b : Nat → Bool} (ha : ∀ e ∈ o.after, Region.binds .any e = true → b e.on = true) : o.op = x ∧ o.dst = d ∧ o.guard = g ∧ ∀ k ∈ deps, b k = true := by
  obtain ⟨o', h1, h2, h3, h4, h5⟩ := h
  rw [ho] at h1
  injection h1 with h1
  subst h1
  refine ⟨h2, h3, h4, fun k hk => ?_⟩
  obtain ⟨e, he, hb, rfl⟩ := h5 k hk
  exact ha e he hb
/-- What slot d of an operation that has run holds. -/
theorem IsO.got {i d : Nat} {x : Op} {g : Option (Nat × Bool)} {deps : List Nat} (h : IsO ops i (some d) x g deps) {w0 : World} {CB : Nat → Prop} {O : List (Value × Ty)} {B : List Bx} {V : Nat → Ty} {b : Nat → Bool} {f : Nat → Option Value} {w : World} (hJ : J ops w0 CB O B V b f w) (hb : b i = true) : ∃ v, f d = some v ∧ (V d).sat v w := by
  obtain ⟨o, h1, _, h2, _⟩ := h
  exact hJ.got h1 h2 hb
theorem IsO.none {i d : Nat} {x : Op} {g : Option (Nat × Bool)} {deps : List Nat} (h : IsO ops i (some d) x g deps) {w0 : World} {CB : Nat → Prop} {O : List (Value × Ty)} {B : List Bx} {V : Nat → Ty} {b : Nat → Bool} {f : Nat → Option Value} {w : World} (hJ : J ops w0 CB O B V b f w) (hb : b i = false) : f d = none := by
  obtain ⟨o, h1, _, h2, _⟩ := h
  cases hf : f d with
  | none => rfl
  | some v =>
    have := (hJ.set i o d h1 h2).2 (by rw [hf]; simp)
    rw [hb] at this
    cases this
theorem IsO.not {i j : Nat} {d : Option Nat} {x : Op} {g : Option (Nat × Bool)} {deps : List Nat} (h : IsO ops i d x g deps) {w0 : World} {CB : Nat → Prop} {O : List (Value × Ty)} {B : List Bx} {V : Nat → Ty} {b : Nat → Bool} {f : Nat → Option Value} {w : World} (hJ : J ops w0 CB O B V b f w) (hj : b j = false) (hd : j ∈ deps) : b i = false := by
  obtain ⟨o, h1, _, h2, _, h5⟩ := h
  cases hb : b i with
  | false => rfl
  | true =>
    obtain ⟨e, he, hbe, rfl⟩ := h5 j hd
    have := hJ.cl i o h1 hb e he hbe
    rw [hj] at this
    cases this
theorem wanted_none {o : Oper} {y : Nat → Option Bool} (h : o.guard = none) : Region.wanted o y = true := by simp [Region.wanted, h]
theorem wanted_some {o : Oper} {c : Act} {j d : Nat} {q r : Bool} {x : Op} {g : Option (Nat × Bool)} {deps : List Nat} (h : o.guard = some (j, q)) (hj : IsO ops j (some d) x g deps) (hd : d < c.tmps.size) (hv : c.eval (.tmp d) = .bool r) : Region.wanted o (yielded ops c.tmps) = (r == q) := by
  obtain ⟨o', h1, _, h2, _⟩ := hj
  have hv' : c.tmps[d]? = some (.bool r) := by
    have : c.tmps.getD d undef = .bool r := hv
    simp only [Array.getD, hd, dif_pos] at this
    rw [Array.getElem?_eq_getElem hd]
    exact congrArg some this
  simp [Region.wanted, h, yielded, h1, h2, hv']
theorem wanted_undef {o : Oper} {c : Act} {j d : Nat} {q : Bool} {x : Op} {g : Option (Nat × Bool)} {deps : List Nat} (h : o.guard = some (j, q)) (hj : IsO ops j (some d) x g deps) (hd : d < c.tmps.size) (hv : c.eval (.tmp d) = undef) : Region.wanted o (yielded ops c.tmps) = false := by
  obtain ⟨o', h1, _, h2, _⟩ := hj
  have hv' : c.tmps[d]? = some undef := by
    have : c.tmps.getD d undef = undef := hv
    simp only [Array.getD, hd, dif_pos] at this
    rw [Array.getElem?_eq_getElem hd]
    exact congrArg some this
  simp [Region.wanted, h, yielded, h1, h2, hv', undef]

theorem then_ret {n : Act → World → Prop} {a : Act} {w : World} (h : Q .ret a w) : Exit.then n Q .ret a w := h
theorem far_of (B : List Bx) (h : (B.filterMap (·.old)).Nodup) : B.Pairwise (fun x y => ∀ g, x.old = some g → y.old ≠ some g) := by
  induction B with
  | nil => exact List.Pairwise.nil
  | cons x B ih =>
    cases hx : x.old with
    | none =>
      rw [List.filterMap_cons_none hx] at h
      exact List.pairwise_cons.2 ⟨fun y _ g hg => (by rw [hx] at hg; cases hg), ih h⟩
    | some g =>
      rw [List.filterMap_cons_some hx] at h
      obtain ⟨h1, h2⟩ := List.nodup_cons.1 h
      refine List.pairwise_cons.2 ⟨fun y hy g' hg hy' => h1 ?_, ih h2⟩
      rw [hx] at hg
      injection hg with hg
      subst hg
      exact List.mem_filterMap.2 ⟨y, hy, hy'⟩
/-- The types of slots, from a list. -/
def tyv (L : List (Nat × Ty)) (d : Nat) : Ty := (L.lookup d).getD Ty.any

theorem region_gen {id : Nat} {dr : Bool} {ops0 : Array Oper} {a : Act} {w : World} (h : ∀ ops, ops = ops0 → (Code.region id ops dr).wp P Q a w) : (Code.region id ops0 dr).wp P Q a w := h _ rfl

theorem region_ty {id : Nat} {dr : Bool} {a : Act} {w0 : World} (hm : dr = true → P.follows .mixedOrders = true) (D : List Nat) (hchk : chk ops D = true) (CB : Nat → Prop) (O : List (Value × Ty)) (B : List Bx) (V : Nat → Ty)
    (hO : ∀ p ∈ O, p.2.sat p.1 w0)
    (hold : ∀ x ∈ B, ∀ g, x.old = some g → Blk w0 g x.t x.z)
    (hfar : B.Pairwise (fun x y => ∀ g, x.old = some g → y.old ≠ some g))
    (hstep : ∀ (b : Nat → Bool) (f : Nat → Option Value) (w : World) (c : Act) (i : Nat) (o : Oper), i < ops.size → J ops w0 CB O B V b f w → (∀ d, d ∉ D → f d = none) → Fr a c f → ops[i]? = some o → b i = false → (∀ e ∈ o.after, Region.binds .any e = true → b e.on = true) →
      Step P ops Q w0 CB B V b f w c i o)
    (hdone : ∀ b f w c, J ops w0 CB O B V b f w → (∀ i, i < ops.size → b i = true) → (∀ d, d ∉ D → f d = none) → Fr a c f → Q .normal c w) :
    (Code.region id ops dr).wp P Q a w0 := by
  obtain ⟨T, ds⟩ := a
  have hout : ∀ (b : Nat → Bool) f w, J ops w0 CB O B V b f w → ∀ d, d ∉ D → f d = none := fun b f w hJ d hd => hJ.out d (fun i o ho e => hd (chk_in hchk i o d ho e))
  have hfr : ∀ f, Fr ⟨T, ds⟩ ⟨upd T f, ds⟩ f := fun f => ⟨fun t ht => by rw [upd_eval T f ds t ht]; rfl, by simp [upd], rfl⟩
  refine region_typed hm CB O B V (chk_ord hchk) (chk_dst hchk) hO hold hfar (fun b f w hJ hb => hdone b f w _ hJ hb (hout _ _ _ hJ) (hfr f)) ?_
  intro b f w i o hJ ho hbi ha
  exact hstep b f w _ i o (Array.getElem?_eq_some_iff.1 ho).1 hJ (hout _ _ _ hJ) (hfr f) ho hbi ha

/-- A box that holds a value of a type. -/
def BX (w : World) (g : Nat) (t : TypeId) (τ : Ty) : Prop := ∃ v, τ.sat v w ∧ Blk w g t v.cells
theorem BX.new {w w' : World} {g : Nat} {t : TypeId} {τ : Ty} (h : BX w g t τ) (hn : New w w') : BX w' g t τ := by
  obtain ⟨v, h1, h2⟩ := h
  exact ⟨v, τ.new h1 hn, h2.chg hn (fun h => h)⟩
theorem BX.lt {w : World} {g : Nat} {t : TypeId} {τ : Ty} (h : BX w g t τ) : g < w.heap.size := by
  obtain ⟨v, h1, h2⟩ := h
  exact h2.lt
/-- Values of the type are structs of n cells. -/
def Ty.str (τ : Ty) (n : Nat) : Prop := ∀ v w, τ.sat v w → ∃ cs : Array Value, v = .agg cs ∧ cs.size = n ∧ cs.all (·.oneCell') = true
theorem cells_agg (cs : Array Value) : (Value.agg cs).cells = cs := rfl
theorem BX.load {w : World} {g n : Nat} {t ty : TypeId} {τ : Ty} (h : BX w g t τ) (hs : τ.str n) (hA : Agg P ty n) : ∃ v, (loadVar ty ⟨g, 0, none⟩).run P w = .ok v w ∧ τ.sat v w := by
  obtain ⟨v, h1, h2⟩ := h
  obtain ⟨cs, rfl, h3, _⟩ := hs v w h1
  subst h3
  exact ⟨_, Agg.load hA h2, h1⟩
theorem BX.of {w : World} {g : Nat} {t : TypeId} {τ : Ty} {cs : Array Value} (hb : Blk w g t cs) (hc : τ.c1.sat cs w) : BX w g t τ := by
  obtain ⟨v, h1, rfl⟩ := hc
  exact ⟨v, h1, hb⟩
theorem store_ty {w : World} {g n : Nat} {ty t : TypeId} {old : Array Value} {τ : Ty} {v : Value} (hA : Agg P ty n) (hs : τ.str n) (hb : Blk w g t old) (ho : old.size = n) (hz : NoInt old.toList) (hv : τ.sat v w) :
    ∃ w', (storeVar ty ⟨g, 0, none⟩ v).run P w = .ok () w' ∧ Chg (fun k => k = g) w w' ∧ ∃ cs, Blk w' g t cs ∧ τ.c1.sat cs w' := by
  obtain ⟨cs, rfl, h1, h2⟩ := hs v w hv
  obtain ⟨w', h3, h4, h5⟩ := store_agg (P := P) (t := t) hA hb ho h1 h2
  exact ⟨w', h3, h4, cs, h5, _, τ.st hv hb hz h4, rfl⟩
end
end Go.Mem

namespace Go.Mem
set_option linter.unusedVariables false
open Go.RowKit
section
variable {P : Program} {o : Oper} {a : Act} {w w' : World} {v : Value}
theorem enter_of {f : Nat} {fn : Func} (hf : P.funcs[f]? = some fn) (h : (fn.name == "runtime.NumGoroutine" || fn.body.isNone) = false) (args : Array Value) (w : World) : (callFunc f args).run P w = .ok (.enter f args) w := by
  rw [Bool.or_eq_false_iff] at h
  have h1 : ¬ fn.name = "runtime.NumGoroutine" := by simpa using h.1
  have h2 : ¬ fn.body = none := fun e => by rw [e] at h; cases h.2
  simp [callFunc, hf, h1, h2, go_sem]
theorem eqg_int (op : BinOp) (t : TypeId) (x y : Operand) (k k' : IntKind) (i j : Int) : (eqGuard op t x y (.int k i) (.int k' j)).run P w = .ok () w := by
  unfold eqGuard
  split <;> simp [go_sem]
theorem eqg_str (op : BinOp) (t : TypeId) (x y : Operand) (i j : ByteArray) : (eqGuard op t x y (.string i) (.string j)).run P w = .ok () w := by
  unfold eqGuard
  split <;> simp [go_sem]
theorem eqg_bool (op : BinOp) (t : TypeId) (x y : Operand) (i j : Bool) : (eqGuard op t x y (.bool i) (.bool j)).run P w = .ok () w := by
  unfold eqGuard
  split <;> simp [go_sem]
theorem ex_bin {op : BinOp} {t u : TypeId} {x y : Operand} {vx vy : Value} (h : o.op = .binOp op t x y u) (hx : a.eval x = vx) (hy : a.eval y = vy) (hg : (eqGuard op t x y vx vy).run P w = .ok () w) (hr : (binOp op t vx vy).run P w = .ok v w) : (execOp a.eval o).run P w = .ok (.value v) w := by
  simp [execOp, h, hx, hy, hg, hr, Result.andThen]
theorem ex_pick {x y z : Operand} {b : Bool} (h : o.op = .pick x y z) (hx : a.eval x = .bool b) (hy : (if b then a.eval y else a.eval z) = v) : (execOp a.eval o).run P w = .ok (.value v) w := by
  cases b <;> simp_all [execOp, asBool, go_sem]
theorem eval_const (x : Value) : a.eval (.const x) = x := rfl
/-- The address of a field. -/
theorem run_field {s : TypeId} {g f off sz : Nat} {fs : Array Field} {fd : Field} (hs : P.underlying s = some (.struct fs)) (hf : fs[f]? = some fd) (ho : fd.offset = off) (hz : (P.info? fd.type).map (·.size) = some sz) (hz0 : (sz == 0) = false) : (Instr.fieldAt s (.pointer (some ⟨g, 0, none⟩)) f).run P w = .ok (.pointer (some ⟨g, off, none⟩)) w := by
  subst ho
  have hz0' : ¬ sz = 0 := by simpa using hz0
  cases hq : P.info? fd.type with
  | none => rw [hq] at hz; cases hz
  | some d =>
    rw [hq] at hz
    injection hz with hz
    simp [Instr.fieldAt, run_underlying hs, hf, Instr.sureAddr, fieldPlace, sizeOf, typeInfo, hq, hz, hz0', Addr.add_lit, Result.andThen, go_sem]
/-- The address of an element of a slice. -/
theorem run_index {t e : TypeId} {g n c i sz : Nat} {k : IntKind} (ht : P.underlying t = some (.slice e)) (hz : (P.info? e).map (·.size) = some sz) (hi : i < n) : (Instr.indexAt t (.slice (some ⟨g, 0, none⟩) n c) (.int k i)).run P w = .ok (.pointer (some ⟨g, i * sz, none⟩)) w := by
  have : (i : Int) < (n : Int) := by omega
  cases hq : P.info? e with
  | none => rw [hq] at hz; cases hz
  | some d =>
    rw [hq] at hz
    injection hz with hz
    simp [Instr.indexAt, asIntOf, run_underlying ht, this, hi, sizeOf, typeInfo, hq, hz, Addr.add_lit, Result.andThen, go_sem]
/-- Some cells in a row, as a struct. -/
theorem load_cells {ty : TypeId} {n : Nat} {ad : Addr} (hA : Agg P ty n) (cs : List Value) (hn : cs.length = n) (h : ∀ j u, cs[j]? = some u → w.cell? (ad.add j) = some u) : (loadVar ty ad).run P w = .ok (.agg cs.toArray) w := by
  obtain ⟨d, hu, hd, hi⟩ := hA
  have hl := run_loadCells_list (P := P) (w := w) ad cs h
  rw [hn] at hl
  cases hq : P.info? ty with
  | none => rw [hq] at hi; cases hi
  | some i =>
    rw [hq] at hi
    injection hi with hi
    cases d <;> simp_all [loadVar, isAgg, run_underlying hu, sizeOf, typeInfo, Result.andThen, go_sem]
/-- Cells of a block from one place on. -/
theorem blk_cells {g k : Nat} {t : TypeId} {cs : Array Value} (hb : Blk w g t cs) (ds : List Value) (h : ∀ j u, ds[j]? = some u → cs[k + j]? = some u) : ∀ j u, ds[j]? = some u → w.cell? ((⟨g, k, none⟩ : Addr).add j) = some u := fun j u hu => by
  rw [Addr.add_lit]
  exact hb.cell (k + j) (h j u hu)
theorem load_str {ty t : TypeId} {g n : Nat} {τ : Ty} {u : Value} {w1 : World} (hA : Agg P ty n) (hs : τ.str n) (T : τ.sat u w1) (K : Blk w g t u.cells) : (loadVar ty ⟨g, 0, none⟩).run P w = .ok u w := by
  obtain ⟨cs, rfl, h3, _⟩ := hs u w1 T
  subst h3
  exact Agg.load hA K
def Ty.noi (τ : Ty) : Prop := ∀ v w, τ.sat v w → NoInt v.cells.toList
theorem noInt_str {τ : Ty} {u : Value} {w1 : World} (h : τ.noi) (T : τ.sat u w1) : NoInt u.cells.toList := h u w1 T
theorem size_str {τ : Ty} {n : Nat} {u : Value} {w1 : World} (hs : τ.str n) (T : τ.sat u w1) : u.cells.size = n := by
  obtain ⟨cs, rfl, h3, _⟩ := hs u w1 T
  exact h3
theorem far_at {B : List Bx} {f : Nat → Option Value} (h : B.Pairwise (fun x y => ∀ g, x.at f = some g → y.at f ≠ some g)) (i j : Nat) (hij : i < j) {x y : Bx} {g : Nat} (hi : B[i]? = some x) (hj : B[j]? = some y) (h1 : x.at f = some g) (h2 : y.at f = some g) : False := by
  obtain ⟨li, ei⟩ := List.getElem?_eq_some_iff.1 hi
  obtain ⟨lj, ej⟩ := List.getElem?_eq_some_iff.1 hj
  have := List.pairwise_iff_getElem.1 h i j li lj hij g
  rw [ei, ej] at this
  exact this h1 h2
theorem own_cb {w0 w1 w2 : World} {S : Nat → Prop} (h : New w0 w1) (hc : Chg S w1 w2) (hs : ∀ k, S k → w0.heap.size ≤ k) : New w0 w2 := Chg.owned h hc hs
theorem run_eql (t : TypeId) (k : IntKind) (x y : Int) : (binOp .eql t (.int k x) (.int k y)).run P w = .ok (.bool (x == y)) w := by
  simp [binOp, go_sem]
theorem run_neq (t : TypeId) (k : IntKind) (x y : Int) : (binOp .neq t (.int k x) (.int k y)).run P w = .ok (.bool (!(x == y))) w := by
  simp [binOp, go_sem]
  rfl
theorem run_lss (t : TypeId) (k : IntKind) (x y : Int) : (binOp .lss t (.int k x) (.int k y)).run P w = .ok (.bool (decide (x < y))) w := by
  simp [binOp, go_sem]
theorem run_leq (t : TypeId) (k : IntKind) (x y : Int) : (binOp .leq t (.int k x) (.int k y)).run P w = .ok (.bool (decide (x ≤ y))) w := by
  simp [binOp, go_sem]
theorem run_gtr (t : TypeId) (k : IntKind) (x y : Int) : (binOp .gtr t (.int k x) (.int k y)).run P w = .ok (.bool (decide (y < x))) w := by
  simp [binOp, go_sem]
theorem run_geq (t : TypeId) (k : IntKind) (x y : Int) : (binOp .geq t (.int k x) (.int k y)).run P w = .ok (.bool (decide (y ≤ x))) w := by
  simp [binOp, go_sem]
theorem run_as {v v' : Value} {e : Sem Value} (h : e.run P w = .ok v w) (hv : v = v') : e.run P w = .ok v' w := hv ▸ h
theorem enter_size {a : Act} {args : Array Value} {n N : Nat} (ha : a = { tmps := args ++ Array.replicate n undef, defers := [] }) (h : args.size + n = N) : a.tmps.size = N := by
  subst ha
  simpa using h
theorem enter_ev {a : Act} {args : Array Value} {n : Nat} (ha : a = { tmps := args ++ Array.replicate n undef, defers := [] }) {i : Nat} {v : Value} (h : args[i]? = some v) : a.eval (.tmp i) = v := by
  subst ha
  show (args ++ Array.replicate n undef).getD i undef = v
  rw [Array.getD_eq_getD_getElem?, Array.getElem?_append_left (Array.getElem?_eq_some_iff.1 h).1, h]
  rfl
theorem enter_defers {a : Act} {args : Array Value} {n : Nat} (ha : a = { tmps := args ++ Array.replicate n undef, defers := [] }) : a.defers = [] := by rw [ha]
theorem enter_wp {f : Nat} {fn : Func} {c : Code} {args : Array Value} {w : World} {R : Ending → World → Prop} {n : Nat} (hf : P.funcs[f]? = some fn) (hb : fn.body = some c) (hn : fn.ntmps = n)
    (h : ∀ a : Act, a = { tmps := args ++ Array.replicate (n - args.size) undef, defers := [] } → c.wp P (bodyPost P fn R) a w) : Calls P f args w R := by
  refine calls_of_wp hf hb ?_
  rw [hn]
  exact h _ rfl
theorem ex_len {x : Operand} {t e : TypeId} {A : Option Addr} {n c : Nat} (h : o.op = .call { callee := .builtin .len, args := #[x], argTypes := #[t] }) (ht : P.underlying t = some (.slice e)) (hx : a.eval x = .slice A n c) : (execOp a.eval o).run P w = .ok (.value (.int .i64 n)) w := by
  simp [execOp, h, resolve, invoke, builtin, hx, Builtin.len_, run_underlying ht, goInt, Result.andThen]
theorem inBlock_exit {Q : Exit → Act → World → Prop} {id : Nat} (h : Q .normal a w) : Exit.inBlock id Q (.exit id) a w := by
  simpa [Exit.inBlock] using h
theorem then_exit {Q : Exit → Act → World → Prop} {n : Act → World → Prop} {id : Nat} (h : Q (.exit id) a w) : Exit.then n Q (.exit id) a w := h
theorem inBlock_ret {Q : Exit → Act → World → Prop} {id : Nat} (h : Q .ret a w) : Exit.inBlock id Q .ret a w := h
theorem run_addi (x y z : Int) (t : TypeId) (h : x + y = z) (hz : -9223372036854775808 ≤ z ∧ z ≤ 9223372036854775807) (hr : (binOp .add t (.int .i64 x) (.int .i64 y)).run P w = .ok (.int .i64 (IntKind.i64.wrap (x + y))) w) : (binOp .add t (.int .i64 x) (.int .i64 y)).run P w = .ok (.int .i64 z) w := by
  rw [hr, h, IntWalk.i64_in _ hz]
theorem run_add' (x y : Int) (t : TypeId) : (binOp .add t (.int .i64 x) (.int .i64 y)).run P w = .ok (.int .i64 (IntKind.i64.wrap (x + y))) w := by
  simp [binOp, go_sem]
theorem run_sub' (x y : Int) (t : TypeId) : (binOp .sub t (.int .i64 x) (.int .i64 y)).run P w = .ok (.int .i64 (IntKind.i64.wrap (x - y))) w := by
  simp [binOp, go_sem]
theorem run_mul' (x y : Int) (t : TypeId) : (binOp .mul t (.int .i64 x) (.int .i64 y)).run P w = .ok (.int .i64 (IntKind.i64.wrap (x * y))) w := by
  simp [binOp, go_sem]
end
end Go.Mem

namespace Go.Mem
set_option linter.unusedVariables false
open Go.RowKit
section
variable {P : Program} {o : Oper} {a : Act} {w w' : World} {v : Value}
/-- A loop by a ghost that falls. -/
theorem loop_ghost {Q : Exit → Act → World → Prop} {c : Code} (I : Nat → Act → World → Prop) (n : Nat) (h0 : I n a w) (round : ∀ n a w, I n a w → c.wp P (Exit.then (fun a' w' => ∃ m, m < n ∧ I m a' w') Q) a w) : (Code.loop c).wp P Q a w := by
  have key : ∀ N n, n < N → ∀ a w, I n a w → Code.rounds P c Q N a w := by
    intro N
    induction N with
    | zero => intro n h; omega
    | succ N ih =>
      intro n hn a w hI
      rw [rounds_succ]
      refine wp_mono (round n a w hI) (fun e a' w' h => ?_)
      cases e with
      | normal =>
        obtain ⟨m, hm, hI'⟩ := h
        exact ih m (by omega) a' w' hI'
      | _ => exact h
  exact wp_loop_rounds (n + 1) (key (n + 1) n (by omega) a w h0)
theorem ex_un {op : UnOp} {t : TypeId} {x : Operand} {vx : Value} (h : o.op = .unOp op t x) (hx : a.eval x = vx) (hr : (Op.unary op vx).run P w = .ok v w) : (execOp a.eval o).run P w = .ok (.value v) w := by
  simp [execOp, h, hx, hr, Result.andThen]
theorem run_negi (x : Int) : (Op.unary .neg (.int .i64 x)).run P w = .ok (.int .i64 (IntKind.i64.wrap (-x))) w := by
  simp [Op.unary, go_sem]
theorem then_normal {Q : Exit → Act → World → Prop} {n : Act → World → Prop} (h : n a w) : Exit.then n Q .normal a w := h
theorem inBlock_normal {Q : Exit → Act → World → Prop} {id : Nat} (h : Q .normal a w) : Exit.inBlock id Q .normal a w := h
end
end Go.Mem

namespace Go.Col
set_option linter.unusedVariables false
open Go.RowKit Go.Mem

abbrev Colr := Nat → Nat
/-- Cells that no coloured block holds. -/
def NB : Value → Bool
  | _ => false
def GI (w : World) (c : Colr) : Prop := ∀ k cs t x, w.heap[k]? = some (.cells cs t x) → c k ≠ 0 → ∀ v ∈ cs.toList, NB v = false
theorem GI.zero (w : World) : GI w (fun _ => 0) := fun k cs t x _ h => absurd rfl h
theorem GI.drew {w : World} {c : Colr} (h : GI w c) : GI w.drew c := h

/-- From w, c to w', c': only blocks of the colours of S have changed, new ones are plain, forgotten or of these colours. -/
structure Ext (S : List Nat) (w : World) (c : Colr) (w' : World) (c' : Colr) : Prop where
  ok : (S.contains 0 || S.contains 1) = false
  chg : Chg (fun k => S.contains (c k) = true) w w'
  col : ∀ k, k < w.heap.size → c' k = c k
  neu : ∀ k, w.heap.size ≤ k → k < w'.heap.size → c' k = 0 ∨ c' k = 1 ∨ S.contains (c' k) = true
  gi : GI w' c'
section
variable {S T : List Nat} {w w' w'' : World} {c c' c'' : Colr}
theorem Ext.z (h : Ext S w c w' c') : S.contains 0 = false := (Bool.or_eq_false_iff.1 h.ok).1
theorem Ext.one (h : Ext S w c w' c') : S.contains 1 = false := (Bool.or_eq_false_iff.1 h.ok).2
theorem Ext.refl (hS : (S.contains 0 || S.contains 1) = false) (h : GI w c) : Ext S w c w c := ⟨hS, Chg.refl _ _, fun _ _ => rfl, fun k h1 h2 => by omega, h⟩
theorem Ext.drew (hS : (S.contains 0 || S.contains 1) = false) (h : GI w c) : Ext S w c w.drew c := ⟨hS, (Chg.refl _ _).drew, fun _ _ => rfl, fun k h1 (h2 : k < w.heap.size) => by omega, h⟩
theorem sub_all (h : T.all (S.contains ·) = true) {n : Nat} (hn : T.contains n = true) : S.contains n = true :=
  List.all_eq_true.1 h n (by simpa using hn)
theorem Ext.trans (h : Ext S w c w' c') (h' : Ext T w' c' w'' c'') (hs : T.all (S.contains ·) = true) : Ext S w c w'' c'' := by
  refine ⟨h.ok, h.chg.trans h'.chg (fun k hk ht => ?_), fun k hk => (h'.col k (Nat.lt_of_lt_of_le hk h.chg.size)).trans (h.col k hk), fun k h1 h2 => ?_, h'.gi⟩
  · rw [h.col k hk] at ht
    exact sub_all hs ht
  · by_cases hk : k < w'.heap.size
    · rw [h'.col k hk]
      exact h.neu k h1 hk
    · rcases h'.neu k (by omega) h2 with h3 | h3 | h3
      · exact .inl h3
      · exact .inr (.inl h3)
      · exact .inr (.inr (sub_all hs h3))
theorem Ext.mono (h : Ext T w c w' c') (hs : T.all (S.contains ·) = true) (hS : (S.contains 0 || S.contains 1) = false) : Ext S w c w' c' :=
  ⟨hS, h.chg.mono (fun k _ ht => sub_all hs ht), h.col, fun k h1 h2 => (h.neu k h1 h2).imp (fun h => h) (Or.imp (fun h => h) (sub_all hs)), h.gi⟩
def ext0 (c : Colr) (n : Nat) : Colr := fun k => if k < n then c k else 0
theorem Ext.of_new (h : New w w') (g : GI w c) : Ext [] w c w' (ext0 c w.heap.size) := by
  refine ⟨rfl, h.mono (fun _ _ hf => hf.elim), fun k hk => by simp [ext0, hk], fun k h1 h2 => .inl (if_neg (show ¬ k < w.heap.size by omega)), ?_⟩
  intro k cs t x hb hc v hv
  unfold ext0 at hc
  split at hc
  · rename_i hk
    rw [h.block k hk (fun h => h)] at hb
    exact g k cs t x hb hc v hv
  · exact absurd rfl hc
def setC (c : Colr) (g n : Nat) : Colr := fun k => if k = g then n else c k
theorem Ext.alloc {n : Nat} {cs : Array Value} {t : TypeId} (g : GI w c) (hn : ([n].contains 0 || [n].contains 1) = false) (hcs : cs.toList.all (fun v => !NB v) = true) : Ext [n] w c (w.alloc (.cells cs t)) (setC c w.heap.size n) := by
  refine ⟨hn, (Chg.refl _ w).alloc _, fun k hk => if_neg (show ¬ k = w.heap.size by omega), fun k h1 h2 => ?_, ?_⟩
  · have : k = w.heap.size := by simp at h2; omega
    subst this
    exact .inr (.inr (by simp [setC]))
  · intro k cs' t' x hb hc v hv
    by_cases hk : k = w.heap.size
    · subst hk
      rw [heap_alloc_new] at hb
      injection hb with hb
      injection hb with hb
      subst hb
      have := List.all_eq_true.1 hcs v (by simpa using hv)
      simpa using this
    · have hlt : k < w.heap.size := by
        have := (Array.getElem?_eq_some_iff.1 hb).1
        simp at this; omega
      rw [Below.heap_alloc w _ k hlt] at hb
      simp only [setC, if_neg hk] at hc
      exact g k cs' t' x hb hc v hv
theorem Ext.allocP {o : Obj} (g : GI w c) : Ext [] w c (w.alloc o) (ext0 c w.heap.size) := Ext.of_new ((Chg.refl _ w).alloc o) g
theorem Ext.store {n g : Nat} {t : TypeId} {cs : Array Value} (gi : GI w c) (hc : Chg (fun k => k = g) w w') (hz : w'.heap.size = w.heap.size) (hn : c g = n) (hS : ([n].contains 0 || [n].contains 1) = false) (hb : Blk w' g t cs) (hcs : cs.toList.all (fun v => !NB v) = true) : Ext [n] w c w' c := by
  refine ⟨hS, hc.mono (fun k _ e => by subst e; simp [hn]), fun _ _ => rfl, fun k h1 h2 => by omega, ?_⟩
  intro k cs' t' x hb' hck v hv
  by_cases hk : k = g
  · subst hk
    unfold Blk at hb
    rw [hb] at hb'
    injection hb' with hb'
    injection hb' with hb'
    subst hb'
    have := List.all_eq_true.1 hcs v (by simpa using hv)
    simpa using this
  · have hlt : k < w.heap.size := by
      have := (Array.getElem?_eq_some_iff.1 hb').1
      omega
    rw [hc.block k hlt hk] at hb'
    exact gi k cs' t' x hb' hck v hv
/-- The blocks that were there when all was plain have not changed. -/
theorem Ext.new0 (h : Ext S w (fun _ => 0) w' c') : New w w' := h.chg.mono (fun k _ hk => by rw [h.z] at hk; cases hk)
theorem add_block (ad : Addr) (j : Nat) : (ad.add j).block = ad.block := by
  cases ad
  simp only [Addr.add]
  split <;> rfl
/-- A slice that holds a barred value lies in a plain block: it is kept. -/
theorem rd_ext {A : Option Addr} {n : Nat} {xs : List Value} (h : Rd w A n xs) (hx : xs = [] ∨ ∃ x ∈ xs, NB x = true) (g : GI w c) (he : Ext S w c w' c') : Rd w' A n xs := by
  refine ⟨h.1, fun hn => ?_⟩
  obtain ⟨ad, rfl, hc⟩ := h.2 hn
  refine ⟨ad, rfl, fun j u hu => ?_⟩
  refine he.chg.cell (hc j u hu) ?_
  have hz : c (ad.add j).block = 0 := by
    rcases hx with rfl | ⟨x, hx1, hx2⟩
    · simp at hu
    obtain ⟨i, hi, hxi⟩ := List.mem_iff_getElem.1 hx1
    have h1 := hc i x (by rw [List.getElem?_eq_getElem hi, hxi])
    rw [add_block, ← add_block ad i]
    refine Decidable.byContradiction fun hne => ?_
    unfold World.cell? at h1
    split at h1
    · rename_i cs t x' heq
      split at h1
      · cases h1
      · have := g _ cs t x' heq hne x (by have := Array.mem_of_getElem? h1; simpa using this)
        rw [hx2] at this
        cases this
    · cases h1
  rw [hz, he.z]
  simp
/-- A slice in a plain block is kept. -/
theorem rd_ext0 {A : Option Addr} {n : Nat} {xs : List Value} (h : Rd w A n xs) (hx : ∀ ad, A = some ad → 0 < n → c ad.block = 0) (he : Ext S w c w' c') : Rd w' A n xs := by
  refine ⟨h.1, fun hn => ?_⟩
  obtain ⟨ad, rfl, hc⟩ := h.2 hn
  refine ⟨ad, rfl, fun j u hu => ?_⟩
  refine he.chg.cell (hc j u hu) ?_
  have hz : c (ad.add j).block = 0 := by rw [add_block]; exact hx ad rfl hn
  rw [hz, he.z]
  simp
theorem cell_lt {ad : Addr} {u : Value} (h : w.cell? ad = some u) : ad.block < w.heap.size := by
  unfold World.cell? at h
  split at h
  · rename_i heq
    exact (Array.getElem?_eq_some_iff.1 heq).1
  · cases h
end

/-- What a value is. -/
structure TyC where
  sat : Value → World → Colr → Prop
  stab : ∀ {S v w c w' c'}, sat v w c → GI w c → Ext S w c w' c' → sat v w' c'
def TyC.any : TyC := ⟨fun _ _ _ => True, fun _ _ _ => trivial⟩
def TyC.eq (u : Value) : TyC := ⟨fun v _ _ => v = u, fun h _ _ => h⟩
def TyC.tup1 (a : TyC) (u : Value) : TyC := ⟨fun v w c => ∃ x, v = .tuple #[x, u] ∧ a.sat x w c, fun ⟨x, h1, h2⟩ g e => ⟨x, h1, a.stab h2 g e⟩⟩
def TyC.tup2 (a b : TyC) (u : Value) : TyC := ⟨fun v w c => ∃ x y, v = .tuple #[x, y, u] ∧ a.sat x w c ∧ b.sat y w c, fun ⟨x, y, h1, h2, h3⟩ g e => ⟨x, y, h1, a.stab h2 g e, b.stab h3 g e⟩⟩
def TyC.pair (a b : TyC) : TyC := ⟨fun v w c => ∃ x y, v = .tuple #[x, y] ∧ a.sat x w c ∧ b.sat y w c, fun ⟨x, y, h1, h2, h3⟩ g e => ⟨x, y, h1, a.stab h2 g e, b.stab h3 g e⟩⟩
def TyC.ptr : TyC := ⟨fun v _ _ => ∃ g, v = .pointer (some ⟨g, 0, none⟩), fun h _ _ => h⟩
def TyC.sl (n : Nat) : TyC := ⟨fun v _ _ => ∃ g, v = .slice (some ⟨g, 0, none⟩) n n, fun h _ _ => h⟩
/-- Cells. -/
structure CTyC where
  sat : Array Value → World → Colr → Prop
  stab : ∀ {S v w c w' c'}, sat v w c → GI w c → Ext S w c w' c' → sat v w' c'

/-- Values of the type are structs of n cells, none of them barred. -/
def TyC.str (τ : TyC) (n : Nat) : Prop := ∀ v w c, τ.sat v w c → ∃ cs : Array Value, v = .agg cs ∧ cs.size = n ∧ cs.all (·.oneCell') = true ∧ cs.toList.all (fun v => !NB v) = true

def BoxC (w : World) (c : Colr) (g : Nat) (t : TypeId) (n : Nat) (τ : TyC) : Prop := c g = n ∧ ∃ v, τ.sat v w c ∧ Blk w g t v.cells
/-- A fact that is kept as long as no block of its colours changes. -/
structure Fact where
  cols : List Nat
  P : World → Colr → Prop
  stab : ∀ {S w c w' c'}, P w c → GI w c → Ext S w c w' c' → cols.any (S.contains ·) = false → P w' c'
def Fact.val (τ : TyC) (v : Value) : Fact := ⟨[], fun w c => τ.sat v w c, fun h g e _ => τ.stab h g e⟩
theorem blk_ext {S : List Nat} {w w' : World} {c c' : Colr} {g n : Nat} {t : TypeId} {cs : Array Value} (hb : Blk w g t cs) (hc : c g = n) (he : Ext S w c w' c') (hn : S.contains n = false) : Blk w' g t cs ∧ c' g = n :=
  ⟨hb.chg he.chg (fun h => by rw [hc, hn] at h; cases h), (he.col g hb.lt).trans hc⟩
def Fact.box (g : Nat) (t : TypeId) (n : Nat) (τ : TyC) : Fact := ⟨[n], fun w c => BoxC w c g t n τ, fun ⟨h1, v, h2, h3⟩ gi e hn => by
  have hn' := by simpa using hn
  obtain ⟨q1, q2⟩ := blk_ext h3 h1 e (by simpa using hn')
  exact ⟨q2, v, τ.stab h2 gi e, q1⟩⟩
/-- A plain block. -/
def Fact.row (g : Nat) (t : TypeId) (κ : CTyC) : Fact := ⟨[], fun w c => c g = 0 ∧ ∃ cs, κ.sat cs w c ∧ Blk w g t cs, fun ⟨h1, v, h2, h3⟩ gi e _ => by
  obtain ⟨q1, q2⟩ := blk_ext h3 h1 e e.z
  exact ⟨q2, v, κ.stab h2 gi e, q1⟩⟩

/-- What a value is that owns blocks of some colours. -/
structure TyO where
  cols : List Nat
  sat : Value → World → Colr → Prop
  stab : ∀ {S v w c w' c'}, sat v w c → GI w c → Ext S w c w' c' → cols.any (S.contains ·) = false → sat v w' c'
def Fact.own (τ : TyO) (v : Value) : Fact := ⟨τ.cols, τ.sat v, τ.stab⟩
abbrev BB := Nat → Bool
abbrev FF := Nat → Option Value
theorem any_app {l l' : List Nat} {p : Nat → Bool} (h : (l ++ l').any p = false) : l.any p = false ∧ l'.any p = false := by
  rw [List.any_append, Bool.or_eq_false_iff] at h
  exact h
/-- A fact in a region: what it says depends on the operations that have run and on the slots that they have written. st: from operation i on F1 instead. new: a box that is made in the region: slot p holds its address; operation s fills it; z: its cells at first. own: slot p holds a value that owns blocks. -/
inductive RF where
  | s (F : Fact)
  | st (i : Nat) (F1 : Fact) (F0 : RF)
  | new (p n : Nat) (t : TypeId) (s : Nat) (z : Array Value) (τ : TyC)
  | own (p : Nat) (τ : TyO)
def RF.cols : RF → List Nat
  | .s F => F.cols
  | .st _ F1 F0 => F1.cols ++ F0.cols
  | .new _ n _ _ _ _ => [n]
  | .own _ τ => τ.cols
def RF.ops : RF → List Nat
  | .s _ => []
  | .st i _ F0 => i :: F0.ops
  | .new _ _ _ sp _ _ => [sp]
  | .own _ _ => []
def RF.slots : RF → List Nat
  | .s _ => []
  | .st _ _ F0 => F0.slots
  | .new p _ _ _ _ _ => [p]
  | .own p _ => [p]
def RF.P : RF → BB → FF → World → Colr → Prop
  | .s F, _, _, w, c => F.P w c
  | .st i F1 F0, b, f, w, c => (b i = true → F1.P w c) ∧ (b i = false → F0.P b f w c)
  | .new p n t sp z τ, b, f, w, c => ∀ g, (f p).bind adr = some g → (b sp = true → BoxC w c g t n τ) ∧ (b sp = false → c g = n ∧ Blk w g t z)
  | .own p τ, b, f, w, c => ∀ v, f p = some v → τ.sat v w c
theorem RF.dep {b b' : BB} {f f' : FF} {w : World} {c : Colr} : ∀ (F : RF), F.P b f w c → (∀ i, F.ops.contains i = true → b' i = b i) → (∀ d, F.slots.contains d = true → f' d = f d) → F.P b' f' w c
  | .s F, h, _, _ => h
  | .st i F1 F0, ⟨h1, h2⟩, ho, hs => ⟨fun hb => h1 ((ho i (by simp [RF.ops])) ▸ hb), fun hb => RF.dep F0 (h2 ((ho i (by simp [RF.ops])) ▸ hb)) (fun j hj => ho j (by simp [RF.ops] at hj ⊢; exact .inr hj)) hs⟩
  | .new p n t sp z τ, h, ho, hs => fun g hg => by
    rw [hs p (by simp [RF.slots])] at hg
    rw [ho sp (by simp [RF.ops])]
    exact h g hg
  | .own p τ, h, ho, hs => fun g hg => by
    rw [hs p (by simp [RF.slots])] at hg
    exact h g hg
theorem RF.stab {b : BB} {f : FF} {S : List Nat} {w w' : World} {c c' : Colr} : ∀ (F : RF), F.P b f w c → GI w c → Ext S w c w' c' → F.cols.any (S.contains ·) = false → F.P b f w' c'
  | .s F, h, g, e, hn => F.stab h g e hn
  | .st i F1 F0, ⟨h1, h2⟩, g, e, hn => ⟨fun hb => F1.stab (h1 hb) g e (any_app hn).1, fun hb => RF.stab F0 (h2 hb) g e (any_app hn).2⟩
  | .new p n t sp z τ, h, gi, e, hn => fun g hg => by
    obtain ⟨h1, h2⟩ := h g hg
    refine ⟨fun hb => (Fact.box g t n τ).stab (h1 hb) gi e hn, fun hb => ?_⟩
    obtain ⟨q1, q2⟩ := h2 hb
    exact (blk_ext q2 q1 e (by simpa [RF.cols] using hn)).symm
  | .own p τ, h, gi, e, hn => fun g hg => τ.stab (h g hg) gi e hn
def Fact.tru : Fact := ⟨[], fun _ _ => True, fun _ _ _ _ => trivial⟩
/-- What it says behind the region. -/
def RF.fin : RF → Fact
  | .s F => F
  | .st _ F1 _ => F1
  | .new _ _ _ _ _ _ => Fact.tru
  | .own _ _ => Fact.tru
theorem RF.to_fin {b : BB} {f : FF} {w : World} {c : Colr} : ∀ (F : RF), F.P b f w c → (∀ i, F.ops.contains i = true → b i = true) → F.fin.P w c
  | .s F, h, _ => h
  | .st i F1 F0, h, hb => h.1 (hb i (by simp [RF.ops]))
  | .new _ _ _ _ _ _, _, _ => trivial
  | .own _ _, _, _ => trivial
def All : List RF → BB → FF → World → Colr → Prop
  | [], _, _, _, _ => True
  | F :: L, b, f, w, c => F.P b f w c ∧ All L b f w c
def bup (b : BB) (i : Nat) : BB := fun k => if k = i then true else b k
def aff (S : List Nat) (i : Nat) (od : Option Nat) (F : RF) : Bool := F.cols.any (S.contains ·) || F.ops.contains i || (match od with | some d => F.slots.contains d | none => false)
theorem aff_no {S : List Nat} {i : Nat} {od : Option Nat} {F : RF} (h : aff S i od F = false) : F.cols.any (S.contains ·) = false ∧ (∀ j, F.ops.contains j = true → j ≠ i) ∧ (∀ d, F.slots.contains d = true → od ≠ some d) := by
  unfold aff at h
  rw [Bool.or_eq_false_iff, Bool.or_eq_false_iff] at h
  refine ⟨h.1.1, fun j hj e => ?_, fun d hd e => ?_⟩
  · subst e; rw [hj] at h; cases h.1.2
  · subst e
    have := h.2
    simp only at this
    rw [hd] at this; cases this
theorem All.step {S : List Nat} {i : Nat} {od : Option Nat} {v : Value} {b : BB} {f : FF} {w w' : World} {c c' : Colr} (hg : GI w c) (he : Ext S w c w' c') : ∀ Fs : List RF, All Fs b f w c → All (Fs.filter (aff S i od)) (bup b i) (upF od v f) w' c' → All Fs (bup b i) (upF od v f) w' c'
  | [], _, _ => trivial
  | F :: Fs, h, h' => by
    cases ha : aff S i od F with
    | true =>
      rw [List.filter_cons_of_pos ha] at h'
      exact ⟨h'.1, All.step hg he Fs h.2 h'.2⟩
    | false =>
      rw [List.filter_cons_of_neg (by rw [ha]; simp)] at h'
      obtain ⟨h1, h2, h3⟩ := aff_no ha
      refine ⟨RF.dep F (RF.stab F h.1 hg he h1) (fun j hj => ?_) (fun d hd => ?_), All.step hg he Fs h.2 h'⟩
      · simp [bup, h2 j hj]
      · simp [upF, h3 d hd]
theorem All.stab {b : BB} {f : FF} {w w' : World} {c c' : Colr} (hg : GI w c) (he : Ext [] w c w' c') : ∀ Fs : List RF, All Fs b f w c → All Fs b f w' c'
  | [], _ => trivial
  | F :: Fs, h => ⟨RF.stab F h.1 hg he (by simp), All.stab hg he Fs h.2⟩

section
variable {P : Program} {ops : Array Oper} {Q : Exit → Act → World → Prop} {T : Array Value} {ds : List Deferred}
structure J (ops : Array Oper) (w0 : World) (c0 : Colr) (CB : List Nat) (Fs : List RF) (V : Nat → TyC) (b : BB) (f : FF) (w : World) (c : Colr) : Prop where
  gi : GI w c
  ext : Ext CB w0 c0 w c
  typ : ∀ d v, f d = some v → (V d).sat v w c
  fac : All Fs b f w c
  set : ∀ (i : Nat) (o : Oper) d, ops[i]? = some o → o.dst = some d → (b i = true ↔ f d ≠ none)
  out : ∀ d, (∀ (i : Nat) (o : Oper), ops[i]? = some o → o.dst ≠ some d) → f d = none
  cl : ∀ (i : Nat) (o : Oper), ops[i]? = some o → b i = true → ∀ e ∈ o.after, Region.binds .any e = true → b e.on = true
/-- What a step has to show. -/
inductive Step (P : Program) (ops : Array Oper) (Q : Exit → Act → World → Prop) (CB : List Nat) (Fs : List RF) (V : Nat → TyC) (b : BB) (f : FF) (w : World) (c : Colr) (a : Act) (i : Nat) (o : Oper) : Prop where
  | run (S : List Nat) (od : Option Nat) (hw : Region.wanted o (yielded ops a.tmps) = true) (hd : o.dst = od) (hS : S.all (CB.contains ·) = true)
      (h : o.wp P a w (fun a' w' => ∃ v c', a' = a.put o.dst v ∧ Ext S w c w' c' ∧ (∀ d, od = some d → (V d).sat v w' c') ∧ All (Fs.filter (aff S i od)) (bup b i) (upF od v f) w' c') Q)
  | skip (od : Option Nat) (hd : o.dst = od) (hw : Region.wanted o (yielded ops a.tmps) = false) (hs : ∀ d, od = some d → (V d).sat undef w c) (h : All (Fs.filter (aff [] i od)) (bup b i) (upF od undef f) w c)

theorem region_typed {id : Nat} {dr : Bool} {w0 : World} {c0 : Colr} (hm : dr = true → P.follows .mixedOrders = true) (CB : List Nat) (Fs : List RF) (V : Nat → TyC)
    (hCB : (CB.contains 0 || CB.contains 1) = false) (hg : GI w0 c0) (hF : All Fs (fun _ => false) (fun _ => none) w0 c0)
    (hord : ∀ (i : Nat) (o : Oper), ops[i]? = some o → ∀ e ∈ o.after, Region.binds .any e = true → e.on < i)
    (hdst : ∀ (i j : Nat) (o o' : Oper) d, ops[i]? = some o → ops[j]? = some o' → o.dst = some d → o'.dst = some d → i = j)
    (hdone : ∀ b f w c, J ops w0 c0 CB Fs V b f w c → (∀ i, i < ops.size → b i = true) → Q .normal ⟨upd T f, ds⟩ w)
    (hstep : ∀ (b : BB) (f : FF) (w : World) (c : Colr) (i : Nat) (o : Oper), J ops w0 c0 CB Fs V b f w c → ops[i]? = some o → b i = false → (∀ e ∈ o.after, Region.binds .any e = true → b e.on = true) →
      Step P ops Q CB Fs V b f w c ⟨upd T f, ds⟩ i o) :
    (Code.region id ops dr).wp P Q ⟨T, ds⟩ w0 := by
  have start : J ops w0 c0 CB Fs V (fun _ => false) (fun _ => none) w0 c0 :=
    ⟨hg, Ext.refl hCB hg, fun d v h => (by cases h), hF, fun i o d _ _ => by simp, fun _ _ => rfl, fun i o _ h => (by cases h)⟩
  have start2 : J ops w0 c0 CB Fs V (fun _ => false) (fun _ => none) w0.drew c0 :=
    ⟨hg.drew, Ext.drew hCB hg, fun d v h => (by cases h), All.stab hg (Ext.drew rfl hg) _ hF, fun i o d _ _ => by simp, fun _ _ => rfl, fun i o _ h => (by cases h)⟩
  refine region_inv2 hm (fun b f w => ∃ c, J ops w0 c0 CB Fs V b f w c) hord ⟨⟨c0, start⟩, ⟨c0, start2⟩⟩ (fun b f w ⟨c, hJ⟩ hb => hdone b f w c hJ hb) ?_
  rintro b f w i o ⟨c, hJ⟩ ho hbi ha
  have hcl : ∀ (j : Nat) (o' : Oper), ops[j]? = some o' → (if j = i then true else b j) = true → ∀ e ∈ o'.after, Region.binds .any e = true → (if e.on = i then true else b e.on) = true := by
    intro j o' ho' hb e he hbe
    split
    · rfl
    · by_cases hj : j = i
      · subst hj
        rw [ho] at ho'
        injection ho' with ho'
        subst ho'
        exact ha e he hbe
      · rw [if_neg hj] at hb
        exact hJ.cl j o' ho' hb e he hbe
  have key : ∀ (S : List Nat) (od : Option Nat) (v : Value) (w' : World) (c' : Colr), o.dst = od → S.all (CB.contains ·) = true → Ext S w c w' c' → (∀ d, od = some d → (V d).sat v w' c') → All (Fs.filter (aff S i od)) (bup b i) (upF od v f) w' c' → J ops w0 c0 CB Fs V (fun k => if k = i then true else b k) (upF o.dst v f) w' c' := by
    intro S od v w' c' hd hS he hv hA
    subst hd
    refine ⟨he.gi, hJ.ext.trans he hS, fun d' v' h' => ?_, All.step hJ.gi he Fs hJ.fac hA, fun j o' d' ho' hd' => ?_, fun d' hd' => ?_, hcl⟩
    · simp only [upF] at h'
      split at h'
      · rename_i e
        injection h' with h'
        subst h'
        exact hv d' e
      · exact (V d').stab (hJ.typ d' v' h') hJ.gi he
    · simp only [upF]
      by_cases hj : j = i
      · subst hj
        rw [ho] at ho'
        injection ho' with ho'
        subst ho'
        simp [hd']
      · have hne : ¬ (o.dst = some d') := fun e => hj (hdst j i o' o d' ho' ho hd' e)
        rw [if_neg hj, if_neg hne]
        exact hJ.set j o' d' ho' hd'
    · have hne : ¬ (o.dst = some d') := fun e => hd' i o ho e
      simp only [upF]
      rw [if_neg hne]
      exact hJ.out d' hd'
  cases hstep b f w c i o hJ ho hbi ha with
  | run S od hw hd hS h =>
    refine .inl ⟨hw, ?_⟩
    refine Oper.wp_mono ?_ h
    rintro a' w' ⟨v, c', rfl, he, hv, hA⟩
    exact ⟨v, rfl, c', key S od v w' c' hd hS he hv hA⟩
  | skip od hd hw hs h =>
    refine .inr ⟨hw, ?_⟩
    exact ⟨c, key [] od undef w c hd rfl (Ext.refl rfl hJ.gi) hs h⟩

theorem region_tz {id : Nat} {dr : Bool} {a : Act} {w0 : World} {c0 : Colr} (hm : dr = true → P.follows .mixedOrders = true) (D : List Nat) (hchk : chk ops D = true) (CB : List Nat) (Fs : List RF) (V : Nat → TyC)
    (hCB : (CB.contains 0 || CB.contains 1) = false) (hg : GI w0 c0) (hF : All Fs (fun _ => false) (fun _ => none) w0 c0)
    (hstep : ∀ (b : BB) (f : FF) (w : World) (c : Colr) (x : Act) (i : Nat) (o : Oper), i < ops.size → J ops w0 c0 CB Fs V b f w c → (∀ d, d ∉ D → f d = none) → Fr a x f → ops[i]? = some o → b i = false → (∀ e ∈ o.after, Region.binds .any e = true → b e.on = true) →
      Step P ops Q CB Fs V b f w c x i o)
    (hdone : ∀ b f w c x, J ops w0 c0 CB Fs V b f w c → (∀ i, i < ops.size → b i = true) → (∀ d, d ∉ D → f d = none) → Fr a x f → Q .normal x w) :
    (Code.region id ops dr).wp P Q a w0 := by
  obtain ⟨T, ds⟩ := a
  have hout : ∀ b f w c, J ops w0 c0 CB Fs V b f w c → ∀ d, d ∉ D → f d = none := fun b f w c hJ d hd => hJ.out d (fun i o ho e => hd (chk_in hchk i o d ho e))
  have hfr : ∀ f, Fr ⟨T, ds⟩ ⟨upd T f, ds⟩ f := fun f => ⟨fun t ht => by rw [upd_eval T f ds t ht]; rfl, by simp [upd], rfl⟩
  refine region_typed hm CB Fs V hCB hg hF (chk_ord hchk) (chk_dst hchk) (fun b f w c hJ hb => hdone b f w c _ hJ hb (hout _ _ _ _ hJ) (hfr f)) ?_
  intro b f w c i o hJ ho hbi ha
  exact hstep b f w c _ i o (Array.getElem?_eq_some_iff.1 ho).1 hJ (hout _ _ _ _ hJ) (hfr f) ho hbi ha

theorem J.got {w0 : World} {c0 : Colr} {CB : List Nat} {Fs : List RF} {V : Nat → TyC} {b : BB} {f : FF} {w : World} {c : Colr} {i d : Nat} {x : Op} {g : Option (Nat × Bool)} {deps : List Nat} (hJ : J ops w0 c0 CB Fs V b f w c) (h : IsO ops i (some d) x g deps) (hb : b i = true) : ∃ v, f d = some v ∧ (V d).sat v w c := by
  obtain ⟨o, ho, _, hd, _⟩ := h
  have h1 := (hJ.set i o d ho hd).1 hb
  cases hf : f d with
  | none => exact absurd hf h1
  | some v => exact ⟨v, rfl, hJ.typ d v hf⟩
theorem J.none {w0 : World} {c0 : Colr} {CB : List Nat} {Fs : List RF} {V : Nat → TyC} {b : BB} {f : FF} {w : World} {c : Colr} {i d : Nat} {x : Op} {g : Option (Nat × Bool)} {deps : List Nat} (hJ : J ops w0 c0 CB Fs V b f w c) (h : IsO ops i (some d) x g deps) (hb : b i = false) : f d = none := by
  obtain ⟨o, h1, _, h2, _⟩ := h
  cases hf : f d with
  | none => rfl
  | some v =>
    have := (hJ.set i o d h1 h2).2 (by rw [hf]; simp)
    rw [hb] at this
    cases this
/-- An operation that waits for one that has not run has not run. -/
theorem J.not {w0 : World} {c0 : Colr} {CB : List Nat} {Fs : List RF} {V : Nat → TyC} {b : BB} {f : FF} {w : World} {c : Colr} {i j : Nat} {d : Option Nat} {x : Op} {g : Option (Nat × Bool)} {deps : List Nat} (hJ : J ops w0 c0 CB Fs V b f w c) (h : IsO ops i d x g deps) (hj : b j = false) (hd : j ∈ deps) : b i = false := by
  obtain ⟨o, h1, _, h2, _, h5⟩ := h
  cases hb : b i with
  | false => rfl
  | true =>
    obtain ⟨e, he, hbe, rfl⟩ := h5 j hd
    have := hJ.cl i o h1 hb e he hbe
    rw [hj] at this
    cases this
/-- What an operation waits for that has run has run. -/
theorem J.has {w0 : World} {c0 : Colr} {CB : List Nat} {Fs : List RF} {V : Nat → TyC} {b : BB} {f : FF} {w : World} {c : Colr} {i j : Nat} {d : Option Nat} {x : Op} {g : Option (Nat × Bool)} {deps : List Nat} (hJ : J ops w0 c0 CB Fs V b f w c) (h : IsO ops i d x g deps) (hb : b i = true) (hd : j ∈ deps) : b j = true := by
  obtain ⟨o, h1, _, h2, _, h5⟩ := h
  obtain ⟨e, he, hbe, rfl⟩ := h5 j hd
  exact hJ.cl i o h1 hb e he hbe

/-! ### what operations do -/
variable {CB : List Nat} {Fs : List RF} {V : Nat → TyC} {b : BB} {f : FF} {w : World} {c : Colr} {a : Act} {i : Nat} {o : Oper} {v : Value}
theorem Step.pure (d : Nat) (hw : Region.wanted o (yielded ops a.tmps) = true) (hd : o.dst = some d) (hA : All (Fs.filter (aff [] i (some d))) (bup b i) (upF (some d) v f) w c) (hg : GI w c) (h : (execOp a.eval o).run P w = .ok (.value v) w) (hv : (V d).sat v w c) : Step P ops Q CB Fs V b f w c a i o :=
  .run [] (some d) hw hd rfl (wp_val h ⟨v, c, rfl, Ext.refl rfl hg, fun d' e => by injection e with e; subst e; exact hv, hA⟩)
theorem Step.non (d : Nat) (hw : Region.wanted o (yielded ops a.tmps) = false) (hd : o.dst = some d) (hA : All (Fs.filter (aff [] i (some d))) (bup b i) (upF (some d) undef f) w c) (hv : (V d).sat undef w c) : Step P ops Q CB Fs V b f w c a i o :=
  .skip (some d) hd hw (fun d' e => by injection e with e; subst e; exact hv) hA
/-- A call that changes blocks of the colours of S. -/
def CE (P : Program) (f : Nat) (vs : Array Value) (w : World) (c : Colr) (S : List Nat) (R : Value → World → Colr → Prop) : Prop := GI w c → Calls P f vs w fun e w' => ∃ v c', e = .returned v ∧ R v w' c' ∧ Ext S w c w' c'
/-- A call that changes nothing. -/
def CV (P : Program) (f : Nat) (vs : Array Value) (w : World) (c : Colr) (τ : TyC) : Prop := CE P f vs w c [] (fun v w' c' => τ.sat v w' c')
theorem CV.of_new {f : Nat} {vs : Array Value} {τ : TyC} {R : Value → World → Prop} (h : Calls P f vs w fun e w' => ∃ v, e = .returned v ∧ R v w' ∧ New w w') (hR : ∀ v w' c', R v w' → τ.sat v w' c') : CV P f vs w c τ := fun hg =>
  h.mono fun e w' ⟨v, h1, h2, h3⟩ => ⟨v, _, h1, hR v w' _ h2, Ext.of_new h3 hg⟩
theorem wp_callE {K : Act → World → Prop} {fn : Nat} {args : Array Operand} {tys : Array TypeId} {vs : Array Value} {S : List Nat} {R : Value → World → Colr → Prop} (h : o.op = .call { callee := .value (.func fn), args := args, argTypes := tys }) (ha : args.map a.eval = vs) (he : ∀ w, (callFunc fn vs).run P w = .ok (.enter fn vs) w)
    (hc : CE P fn vs w c S R) (hg : GI w c) (hk : ∀ v w' c', R v w' c' → Ext S w c w' c' → K (a.put o.dst v) w') : o.wp P a w K Q := by
  unfold Oper.wp execOp
  rw [h]
  have hev : a.eval (.func fn) = .func (.func fn) #[] #[] := rfl
  simp [resolve, invoke, hev, ha, he, Oper.upon, go_sem]
  refine (hc hg).mono ?_
  rintro e w' ⟨v, c', rfl, h1, h2⟩
  exact hk v w' c' h1 h2
theorem Step.call (d : Nat) {fn : Nat} {args : Array Operand} {tys : Array TypeId} {vs : Array Value} (hw : Region.wanted o (yielded ops a.tmps) = true) (hd : o.dst = some d) (hA : (Fs.filter (aff [] i (some d))) = []) (hg : GI w c) (h : o.op = .call { callee := .value (.func fn), args := args, argTypes := tys }) (ha : args.map a.eval = vs) (he : ∀ w, (callFunc fn vs).run P w = .ok (.enter fn vs) w)
    (hc : CV P fn vs w c (V d)) : Step P ops Q CB Fs V b f w c a i o :=
  .run [] (some d) hw hd rfl (wp_callE h ha he hc hg (fun v w' c' hv hE => ⟨v, c', rfl, hE, fun d' e => by injection e with e; subst e; exact hv, by rw [hA]; trivial⟩))
theorem Step.callE (d : Nat) (S : List Nat) {R : Value → World → Colr → Prop} {fn : Nat} {args : Array Operand} {tys : Array TypeId} {vs : Array Value} (hw : Region.wanted o (yielded ops a.tmps) = true) (hd : o.dst = some d) (hS : S.all (CB.contains ·) = true) (hg : GI w c) (h : o.op = .call { callee := .value (.func fn), args := args, argTypes := tys }) (ha : args.map a.eval = vs) (he : ∀ w, (callFunc fn vs).run P w = .ok (.enter fn vs) w)
    (hc : CE P fn vs w c S R) (hk : ∀ v w' c', R v w' c' → Ext S w c w' c' → (V d).sat v w' c' ∧ All (Fs.filter (aff S i (some d))) (bup b i) (upF (some d) v f) w' c') : Step P ops Q CB Fs V b f w c a i o :=
  .run S (some d) hw hd hS (wp_callE h ha he hc hg (fun v w' c' hv hE => ⟨v, c', rfl, hE, fun d' e => by injection e with e; subst e; exact (hk v w' c' hv hE).1, (hk v w' c' hv hE).2⟩))
theorem bup_at {b : BB} {i : Nat} : bup b i i = true := by simp [bup]
theorem bup_ne {b : BB} {i k : Nat} (h : (k == i) = false) : bup b i k = b k := by simp at h; simp [bup, h]
theorem up_at {d : Nat} {v : Value} {f : FF} : upF (some d) v f d = some v := by simp [upF]
/-- A box is made and filled at once: op box. -/
theorem new_box {p n s : Nat} {t : TypeId} {z cs : Array Value} {τ : TyC} {u : Value} (hcs : u.cells = cs) (hu : τ.sat u w c) (hg : GI w c) (hi : s = i) (hn : ([n].contains 0 || [n].contains 1) = false) (hb : cs.toList.all (fun v => !NB v) = true) :
    (RF.new p n t s z τ).P (bup b i) (upF (some p) (.pointer (some ⟨w.heap.size, 0, none⟩)) f) (w.alloc (.cells cs t)) (setC c w.heap.size n) := by
  subst hi hcs
  intro g hgp
  rw [up_at] at hgp
  obtain rfl : w.heap.size = g := by simpa [adr] using hgp
  refine ⟨fun _ => ⟨by simp [setC], u, τ.stab hu hg (Ext.alloc hg hn hb), Blk.new _ _ _⟩, fun h => ?_⟩
  rw [bup_at] at h; cases h
theorem new_zero {p n s : Nat} {t : TypeId} {z : Array Value} {τ : TyC} (hs : b s = false) (hi : (s == i) = false) :
    (RF.new p n t s z τ).P (bup b i) (upF (some p) (.pointer (some ⟨w.heap.size, 0, none⟩)) f) (w.alloc (.cells z t)) (setC c w.heap.size n) := by
  intro g hgp
  rw [up_at] at hgp
  obtain rfl : w.heap.size = g := by simpa [adr] using hgp
  refine ⟨fun h => ?_, fun h => ⟨by simp [setC], Blk.new _ _ _⟩⟩
  rw [bup_ne hi, hs] at h; cases h
theorem Step.box (p n : Nat) (s : Nat) (z cs : Array Value) (τ : TyC) {ty : TypeId} {x : Operand} {u : Value} (hw : Region.wanted o (yielded ops a.tmps) = true) (hd : o.dst = some p) (hS : [n].all (CB.contains ·) = true) (hF : Fs.filter (aff [n] i (some p)) = [RF.new p n ty s z τ]) (hg : GI w c) (ho : o.op = .box ty x) (hx : a.eval x = u) (hcs : u.cells = cs) (hu : τ.sat u w c) (hi : s = i) (hn : ([n].contains 0 || [n].contains 1) = false) (hb : cs.toList.all (fun v => !NB v) = true) (hV : V p = TyC.ptr) :
    Step P ops Q CB Fs V b f w c a i o := by
  refine .run [n] (some p) hw hd hS (wp_val (ex_box ho hx) ⟨_, setC c w.heap.size n, rfl, ?_, fun d e => ?_, ?_⟩)
  · rw [hcs]; exact Ext.alloc hg hn hb
  · injection e with e; subst e; rw [hV]; exact ⟨_, rfl⟩
  · rw [hF, hcs]; exact ⟨new_box hcs hu hg hi hn hb, trivial⟩
theorem Step.alloc (p n : Nat) (s : Nat) (z : Array Value) (τ : TyC) {ty : TypeId} {u : Value} (hw : Region.wanted o (yielded ops a.tmps) = true) (hd : o.dst = some p) (hS : [n].all (CB.contains ·) = true) (hF : Fs.filter (aff [n] i (some p)) = [RF.new p n ty s z τ]) (hg : GI w c) (ho : o.op = .alloc ty) (hz : (zeroValue ty).run P w = .ok u w) (hcs : u.cells = z) (hsb : b s = false) (hi : (s == i) = false) (hn : ([n].contains 0 || [n].contains 1) = false) (hb : z.toList.all (fun v => !NB v) = true) (hV : V p = TyC.ptr) :
    Step P ops Q CB Fs V b f w c a i o := by
  refine .run [n] (some p) hw hd hS (wp_val (ex_alloc ho hz) ⟨_, setC c w.heap.size n, rfl, ?_, fun d e => ?_, ?_⟩)
  · rw [hcs]; exact Ext.alloc hg hn hb
  · injection e with e; subst e; rw [hV]; exact ⟨_, rfl⟩
  · rw [hF, hcs]; exact ⟨new_zero hsb hi, trivial⟩
theorem Step.alloc0 (p n : Nat) (s : Nat) (z : Array Value) (τ : TyC) {ty : TypeId} {u : Value} (hw : Region.wanted o (yielded ops a.tmps) = true) (hd : o.dst = some p) (hS : [n].all (CB.contains ·) = true) (hF : Fs.filter (aff [n] i (some p)) = [RF.new p n ty s z τ]) (hg : GI w c) (ho : o.op = .alloc ty) (hz : (zeroValue ty).run P w = .ok u w) (hcs : u.cells = z) (hu : τ.sat u w c) (hi : s = i) (hn : ([n].contains 0 || [n].contains 1) = false) (hb : z.toList.all (fun v => !NB v) = true) (hV : V p = TyC.ptr) :
    Step P ops Q CB Fs V b f w c a i o := by
  refine .run [n] (some p) hw hd hS (wp_val (ex_alloc ho hz) ⟨_, setC c w.heap.size n, rfl, ?_, fun d e => ?_, ?_⟩)
  · rw [hcs]; exact Ext.alloc hg hn hb
  · injection e with e; subst e; rw [hV]; exact ⟨_, rfl⟩
  · rw [hF, hcs]; exact ⟨new_box hcs hu hg hi hn hb, trivial⟩
/-- A whole value is stored into a block of colour n. -/
theorem store_col {ty t : TypeId} {g n m : Nat} {old cs : Array Value} (hA : Agg P ty m) (hb : Blk w g t old) (ho : old.size = m) (hc : cs.size = m) (h1 : cs.all (·.oneCell') = true) (hg : GI w c) (hn : c g = n) (hS : ([n].contains 0 || [n].contains 1) = false) (hNB : cs.toList.all (fun v => !NB v) = true) :
    ∃ w', (storeVar ty ⟨g, 0, none⟩ (.agg cs)).run P w = .ok () w' ∧ Ext [n] w c w' c ∧ Blk w' g t cs := by
  obtain ⟨d, hu, hd, hi⟩ := hA
  have hr := run_storeVar_row (P := P) w g t ty old cs hb (by rw [hi, hc]) (by rw [ho, hc]) h1
  have hb' : Blk (w.setRow g cs) g t cs := setRow_heap w g old cs t (0, 0) hb
  exact ⟨_, hr, Ext.store hg ⟨rfl, rfl, rfl, by simp [World.setRow], fun k hk hne => setRow_other w g k cs hne⟩ (by simp [World.setRow]) hn hS hb' hNB, hb'⟩
theorem store_tyc {ty t : TypeId} {g n m : Nat} {old : Array Value} {τ : TyC} (hA : Agg P ty m) (hs : τ.str m) (hb : Blk w g t old) (ho : old.size = m) (hv : τ.sat v w c) (hg : GI w c) (hn : c g = n) (hS : ([n].contains 0 || [n].contains 1) = false) :
    ∃ w', (storeVar ty ⟨g, 0, none⟩ v).run P w = .ok () w' ∧ Ext [n] w c w' c ∧ BoxC w' c g t n τ := by
  obtain ⟨cs, rfl, h1, h2, h3⟩ := hs v w c hv
  obtain ⟨w', q1, q2, q3⟩ := store_col (P := P) (t := t) hA hb ho h1 h2 hg hn hS h3
  exact ⟨w', q1, q2, hn, _, τ.stab hv hg q2, q3⟩
theorem BoxC.old {g n m : Nat} {t : TypeId} {τ : TyC} (h : BoxC w c g t n τ) (hs : τ.str m) : ∃ old, Blk w g t old ∧ old.size = m ∧ c g = n := by
  obtain ⟨h1, u, h2, h3⟩ := h
  obtain ⟨cs, rfl, h4, _⟩ := hs u w c h2
  exact ⟨_, h3, h4, h1⟩
theorem BoxC.load {g n m : Nat} {t ty : TypeId} {τ : TyC} (h : BoxC w c g t n τ) (hA : Agg P ty m) (hs : τ.str m) : ∃ u, (loadVar ty ⟨g, 0, none⟩).run P w = .ok u w ∧ τ.sat u w c := by
  obtain ⟨h1, u, h2, h3⟩ := h
  obtain ⟨cs, rfl, h4, _⟩ := hs u w c h2
  subst h4
  exact ⟨_, Agg.load hA h3, h2⟩
theorem Step.store (n : Nat) (S : List Nat) {ty : TypeId} {x y : Operand} {ad : Addr} (hS : S = [n]) (hw : Region.wanted o (yielded ops a.tmps) = true) (hd : o.dst = none) (hCB : [n].all (CB.contains ·) = true) (ho : o.op = .store ty x y) (hx : a.eval x = .pointer (some ad)) (hy : a.eval y = v)
    (h : ∃ w', (storeVar ty ad v).run P w = .ok () w' ∧ Ext [n] w c w' c ∧ All (Fs.filter (aff [n] i none)) (bup b i) f w' c) : Step P ops Q CB Fs V b f w c a i o := by
  obtain ⟨w', h1, h2, h3⟩ := h
  have hu : upF none undef f = f := by funext d; simp [upF]
  refine .run [n] none hw hd hCB (wp_skp (ex_store ho hx hy h1) ⟨undef, c, by rw [hd], h2, fun d e => (by cases e), ?_⟩)
  rw [hu]
  exact h3
end
theorem RF.new_none {p n s : Nat} {t : TypeId} {z : Array Value} {τ : TyC} {b : BB} {w : World} {c : Colr} : (RF.new p n t s z τ).P b (fun _ => none) w c := fun g hg => by cases hg
theorem RF.own_none {p : Nat} {τ : TyO} {b : BB} {w : World} {c : Colr} : (RF.own p τ).P b (fun _ => none) w c := fun g hg => by cases hg
end Go.Col
namespace Go.Col
open Go.RowKit Go.Mem
theorem All.at {b : BB} {f : FF} {w : World} {c : Colr} : ∀ {Fs : List RF}, All Fs b f w c → ∀ (k : Nat) {F : RF}, Fs[k]? = some F → F.P b f w c
  | F :: Fs, h, 0, F', hk => by
    simp at hk; subst hk; exact h.1
  | F :: Fs, h, k + 1, F', hk => All.at (Fs := Fs) h.2 k (by simpa using hk)
  | [], _, k, F', hk => by simp at hk
/-- The types of slots, from a list. -/
def tyvC (L : List (Nat × TyC)) (d : Nat) : TyC := (L.lookup d).getD TyC.any
section
variable {P : Program} {ops : Array Oper} {Q : Exit → Act → World → Prop} {CB : List Nat} {Fs : List RF} {V : Nat → TyC} {b : BB} {f : FF} {w : World} {c : Colr} {a : Act} {i : Nat} {o : Oper} {v : Value}
theorem Step.allocz (p n : Nat) (s : Nat) (z : Array Value) (τ : TyC) {ty : TypeId} {u : Value} {cs : Array Value} (hw : Region.wanted o (yielded ops a.tmps) = true) (hd : o.dst = some p) (hS : [n].all (CB.contains ·) = true) (hF : Fs.filter (aff [n] i (some p)) = [RF.new p n ty s z τ]) (hg : GI w c) (ho : o.op = .alloc ty) (hz : (zeroValue ty).run P w = .ok u w) (hcs : u.cells = cs) (hu : τ.sat u w c) (hi : s = i) (hn : ([n].contains 0 || [n].contains 1) = false) (hb : cs.toList.all (fun v => !NB v) = true) (hV : V p = TyC.ptr) :
    Step P ops Q CB Fs V b f w c a i o := by
  refine .run [n] (some p) hw hd hS (wp_val (ex_alloc ho hz) ⟨_, setC c w.heap.size n, rfl, ?_, fun d e => ?_, ?_⟩)
  · rw [hcs]; exact Ext.alloc hg hn hb
  · injection e with e; subst e; rw [hV]; exact ⟨_, rfl⟩
  · rw [hF, hcs]; exact ⟨new_box hcs hu hg hi hn hb, trivial⟩
/-- A contract of a function that is handed plain values: what it returns, and only new memory. -/
def CT0 (P : Program) (f : Nat) (vs : Array Value) (w : World) (τ : TyC) : Prop := Calls P f vs w fun e w' => ∃ v, e = .returned v ∧ τ.sat v w' (fun _ => 0) ∧ New w w'
/-- What a value is does not ask for colours. -/
def TyC.plain (τ : TyC) : Prop := ∀ v w c c', τ.sat v w c → τ.sat v w c'
theorem CT0.cv {fn : Nat} {vs : Array Value} {τ : TyC} (h : CT0 P fn vs w τ) (hp : τ.plain) : CV P fn vs w c τ := CV.of_new (R := fun v w' => τ.sat v w' (fun _ => 0)) h (fun v w' c' hv => hp v w' _ c' hv)
theorem CT0.of_CT {fn : Nat} {vs : Array Value} {τ : Ty} {σ : TyC} (h : CT P fn vs w τ) (hs : ∀ v w', τ.sat v w' → σ.sat v w' (fun _ => 0)) : CT0 P fn vs w σ := h.mono fun e w' ⟨v, h1, h2, h3⟩ => ⟨v, h1, hs v w' h2, h3⟩
theorem plain_tup1 {τ : TyC} {u : Value} (h : τ.plain) : (τ.tup1 u).plain := fun v w c c' ⟨x, h1, h2⟩ => ⟨x, h1, h x w c c' h2⟩
theorem plain_tup2 {τ σ : TyC} {u : Value} (h : τ.plain) (h' : σ.plain) : (τ.tup2 σ u).plain := fun v w c c' ⟨x, y, h1, h2, h3⟩ => ⟨x, y, h1, h x w c c' h2, h' y w c c' h3⟩
theorem plain_pair {τ σ : TyC} (h : τ.plain) (h' : σ.plain) : (τ.pair σ).plain := fun v w c c' ⟨x, y, h1, h2, h3⟩ => ⟨x, y, h1, h x w c c' h2, h' y w c c' h3⟩
theorem plain_eq (u : Value) : (TyC.eq u).plain := fun v w c c' h => h
variable {fn : Func} {p q r : Tmp}
theorem res_tt (h : fn.results = #[.tmp p, .tmp q]) (tmps : Array Value) {v u : Value} (hp : tmps.getD p undef = v) (hq : tmps.getD q undef = u) : (results fn tmps).run P w = .ok (.tuple #[v, u]) w := by
  have hp' : tmps[p]?.getD undef = v := by simpa using hp
  have hq' : tmps[q]?.getD undef = u := by simpa using hq
  simp [results, h, hp', hq']
theorem res_t (h : fn.results = #[.tmp p]) (tmps : Array Value) {v : Value} (hp : tmps.getD p undef = v) : (results fn tmps).run P w = .ok v w := by
  have hp' : tmps[p]?.getD undef = v := by simpa using hp
  simp [results, h, hp']
theorem res_cc {g g2 : Nat} {ty ty2 : TypeId} (h : fn.results = #[.cell p ty, .cell q ty2]) (tmps : Array Value) {v v2 : Value} (hp : tmps.getD p undef = .pointer (some ⟨g, 0, none⟩)) (hl : (loadVar ty ⟨g, 0, none⟩).run P w = .ok v w)
    (hq : tmps.getD q undef = .pointer (some ⟨g2, 0, none⟩)) (hl2 : (loadVar ty2 ⟨g2, 0, none⟩).run P w = .ok v2 w) : (results fn tmps).run P w = .ok (.tuple #[v, v2]) w := by
  have hp' : tmps[p]?.getD undef = .pointer (some ⟨g, 0, none⟩) := by simpa using hp
  have hq' : tmps[q]?.getD undef = .pointer (some ⟨g2, 0, none⟩) := by simpa using hq
  simp [results, h, hp', hq', asAddr, hl, hl2]
end
/-- The first part ends in an assertion. -/
theorem wp_join {P : Program} {x y : Code} {Q : Exit → Act → World → Prop} {a : Act} {w : World} (M : Act → World → Prop) (h1 : x.wp P (Exit.then M Q) a w) (h2 : ∀ a w, M a w → y.wp P Q a w) : (Code.seq x y).wp P Q a w := by
  refine wp_seq (wp_mono h1 (fun e a' w' h => ?_))
  cases e with
  | normal => exact h2 a' w' h
  | _ => exact h
theorem run_rem_i {P : Program} {w : World} (x y : Int) (t : TypeId) (h : y ≠ 0) : (binOp .rem t (.int .i64 x) (.int .i64 y)).run P w = .ok (.int .i64 (x.tmod y)) w := by
  simp [binOp, Op.intDiv, h, go_sem]
theorem run_quo_i {P : Program} {w : World} (x y : Int) (t : TypeId) (h : y ≠ 0 ∧ y ≠ -1) (hx : -9223372036854775808 ≤ x ∧ x ≤ 9223372036854775807) : (binOp .quo t (.int .i64 x) (.int .i64 y)).run P w = .ok (.int .i64 (x.tdiv y)) w := by
  have hr : IntKind.i64.wrap (x.tdiv y) = x.tdiv y := by
    refine IntWalk.i64_in _ ?_
    have h1 := Int.natAbs_tdiv_le_natAbs x y
    by_cases hm : x = -9223372036854775808
    · subst hm
      by_cases hy1 : y = 1
      · subst hy1; decide
      · have h2 : ((-9223372036854775808 : Int).tdiv y).natAbs ≤ 4611686018427387904 := by
          rw [Int.natAbs_tdiv]
          have h3 : 2 ≤ y.natAbs := by omega
          exact Nat.div_le_of_le_mul (by omega)
        omega
    · omega
  simp [binOp, Op.intDiv, h.1, hr, go_sem]
end Go.Col
