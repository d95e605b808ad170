/- A region that draws its order, by an invariant that every operation that is ready keeps. No program is named here. -/
import Derived.Test.YtdflpcbkkpgnlaaB0
import Derived.Test.YtdflpcbkkpgnlaaMemMkZ
import Derived.Orders
namespace Go.Mem
set_option linter.unusedVariables false
open Go.RowKit

/-- Temporaries, some of them written anew. -/
def upd (T : Array Value) (f : Nat → Option Value) : Array Value := T.mapIdx fun i x => (f i).getD x
def upF (dst : Option Tmp) (v : Value) (f : Nat → Option Value) : Nat → Option Value := fun i => if dst = some i then some v else f i
theorem upd_none (T : Array Value) : upd T (fun _ => none) = T := by
  unfold upd
  apply Array.ext
  · simp
  · intro i h1 h2; simp
theorem upd_put (T : Array Value) (f : Nat → Option Value) (dst : Option Tmp) (v : Value) (ds : List Deferred) : (Act.mk (upd T f) ds).put dst v = Act.mk (upd T (upF dst v f)) ds := by
  cases dst with
  | none =>
    show Act.mk (upd T f) ds = _
    congr 1
  | some d =>
    show Act.mk ((upd T f).setIfInBounds d v) ds = _
    congr 1
    unfold upd
    apply Array.ext
    · simp
    · intro i h1 h2
      have hi : i < T.size := by simpa using h2
      rw [Array.getElem_setIfInBounds (by simpa using hi), Array.getElem_mapIdx, Array.getElem_mapIdx]
      unfold upF
      by_cases h : d = i
      · simp [h]
      · simp [h]
theorem upd_eval (T : Array Value) (f : Nat → Option Value) (ds : List Deferred) (t : Tmp) (h : t < T.size) : (Act.mk (upd T f) ds).eval (.tmp t) = (f t).getD (T.getD t undef) := by
  show (upd T f).getD t undef = _
  unfold upd
  simp [Array.getD, h]

/-- The slots that are written, one after the other. -/
theorem foldl_sets (vs : Nat → Value) : ∀ (slots : List Nat) (T : Array Value) (i : Nat) (h : i < T.size), (slots.foldl (fun T s => T.setIfInBounds s (vs s)) T)[i]? = some (if i ∈ slots then vs i else T[i]) := by
  intro slots
  induction slots with
  | nil => intro T i h; simp [h]
  | cons s slots ih =>
    intro T i h
    rw [List.foldl_cons, ih _ i (by simpa using h)]
    by_cases h1 : i ∈ slots
    · simp [h1]
    · by_cases h2 : i = s
      · subst h2; simp [h1, h]
      · have h3 : ¬ s = i := fun e => h2 e.symm
        simp only [h1, List.mem_cons, h2, or_self, if_false]
        rw [Array.getElem_setIfInBounds h, if_neg h3]
theorem foldl_size (vs : Nat → Value) : ∀ (slots : List Nat) (T : Array Value), (slots.foldl (fun T s => T.setIfInBounds s (vs s)) T).size = T.size := by
  intro slots
  induction slots with
  | nil => intro T; rfl
  | cons s slots ih => intro T; rw [List.foldl_cons, ih]; simp
theorem upd_sets {T : Array Value} {f : Nat → Option Value} {slots : List Nat} (hn : ∀ i, i ∉ slots → f i = none) (hs : ∀ i, i ∈ slots → f i ≠ none) : upd T f = slots.foldl (fun T s => T.setIfInBounds s ((f s).getD undef)) T := by
  apply Array.ext'
  apply List.ext_getElem?
  intro i
  rw [Array.getElem?_toList, Array.getElem?_toList]
  rcases Nat.lt_or_ge i T.size with h | h
  · rw [foldl_sets (fun s => (f s).getD undef) slots T i h]
    unfold upd
    rw [Array.getElem?_mapIdx, Array.getElem?_eq_getElem h]
    by_cases hm : i ∈ slots
    · rw [if_pos hm]
      cases hf : f i with
      | none => exact absurd hf (hs i hm)
      | some v => simp [hf]
    · rw [if_neg hm]
      simp [hn i hm]
  · rw [Array.getElem?_eq_none (by unfold upd; simpa using h), Array.getElem?_eq_none (by rw [foldl_size]; exact h)]

theorem ready_mem {md : Region.Mode} {ops : Array Oper} {listed : Array Bool} {i : Nat} (h : i ∈ Region.ready md ops listed) : i < ops.size ∧ listed.getD i true = false ∧ ∃ o, ops[i]? = some o ∧ ∀ e ∈ o.after, Region.binds md e = true → listed.getD e.on false = true := by
  unfold Region.ready at h
  rw [List.mem_filter] at h
  obtain ⟨h1, h2⟩ := h
  have h1 : i < ops.size := by simpa using h1
  rw [Bool.and_eq_true] at h2
  obtain ⟨h2, h3⟩ := h2
  refine ⟨h1, ?_, ops[i], by simp [h1], ?_⟩
  · cases hx : listed.getD i true with
    | false => rfl
    | true => rw [hx] at h2; cases h2
  rw [Array.getElem?_eq_getElem h1] at h3
  simp only [Option.map_some, Option.getD_some] at h3
  intro e he hb
  have := (Array.all_eq_true_iff_forall_mem.1 h3) e he
  simpa [hb] using this
theorem ready_none {md : Region.Mode} {ops : Array Oper} {listed : Array Bool} (h : Region.ready md ops listed = []) {i : Nat} {o : Oper} (ho : ops[i]? = some o) (ha : ∀ e ∈ o.after, Region.binds md e = true → listed.getD e.on false = true) : listed.getD i true = true := by
  cases hl : listed.getD i true with
  | true => rfl
  | false =>
    exfalso
    have hi : i < ops.size := (Array.getElem?_eq_some_iff.1 ho).1
    have hm : i ∈ Region.ready md ops listed := by
      unfold Region.ready
      rw [List.mem_filter]
      refine ⟨by simpa using hi, ?_⟩
      rw [hl, ho]
      simp only [Bool.not_false, Bool.true_and, Option.map_some, Option.getD_some]
      rw [Array.all_eq_true_iff_forall_mem]
      intro e he
      cases hb : Region.binds md e with
      | false => simp
      | true => simpa using ha e he hb
    rw [h] at hm
    cases hm

section
variable {P : Program} {ops : Array Oper} {Q : Exit → Act → World → Prop} {md : Region.Mode} {T : Array Value} {ds : List Deferred}
/-- How many operations are left. -/
def left (listed : Array Bool) : Nat := listed.toList.countP (!·)
theorem left_set {listed : Array Bool} {i : Nat} (hi : listed.getD i true = false) : left (listed.setIfInBounds i true) + 1 ≤ left listed := by
  have hlt : i < listed.size := by
    rcases Nat.lt_or_ge i listed.size with h | h
    · exact h
    · simp [Array.getD, Nat.not_lt.2 h] at hi
  have hx : listed[i] = false := by simpa [Array.getD, hlt] using hi
  unfold left
  rw [Array.toList_setIfInBounds]
  have hl : i < listed.toList.length := by simpa using hlt
  have hx' : listed.toList[i] = false := by simpa using hx
  generalize listed.toList = L at *
  clear hi hx hlt
  induction L generalizing i with
  | nil => simp at hl
  | cons x L ih =>
    cases i with
    | zero => simp at hx'; subst hx'; simp
    | succ i =>
      have := ih (i := i) (by simpa using hl) (by simpa using hx')
      rw [List.set_cons_succ, List.countP_cons, List.countP_cons]
      omega

theorem wpAny_inv (J : (Nat → Bool) → (Nat → Option Value) → World → Prop)
    (hord : ∀ (i : Nat) (o : Oper), ops[i]? = some o → ∀ e ∈ o.after, e.on < i)
    (hdone : ∀ b f w, J b f w → (∀ i, i < ops.size → b i = true) → Q .normal ⟨upd T f, ds⟩ w)
    (hstep : ∀ (b : Nat → Bool) (f : Nat → Option Value) (w : World) (i : Nat) (o : Oper), J b f w → ops[i]? = some o → b i = false → (∀ e ∈ o.after, Region.binds md e = true → b e.on = true) →
      o.guard = none ∧ o.wp P ⟨upd T f, ds⟩ w (fun a' w' => ∃ v, a' = (Act.mk (upd T f) ds).put o.dst v ∧ J (fun k => if k = i then true else b k) (upF o.dst v f) w') Q) :
    ∀ (fuel : Nat) (listed : Array Bool) (f : Nat → Option Value) (w : World), listed.size = ops.size → left listed ≤ fuel → J (fun i => listed.getD i false) f w → wpAny P md ops Q fuel listed ⟨upd T f, ds⟩ w := by
  have hall : ∀ listed : Array Bool, listed.size = ops.size → Region.ready md ops listed = [] → ∀ i, i < ops.size → listed.getD i false = true := by
    intro listed hs hr i
    induction i using Nat.strongRecOn with
    | ind i ih =>
      intro hi
      have ho : ops[i]? = some ops[i] := Array.getElem?_eq_getElem hi
      have := ready_none hr ho (fun e he _ => ih e.on (hord i _ ho e he) (Nat.lt_trans (hord i _ ho e he) hi))
      simpa [Array.getD, hs, hi] using this
  intro fuel
  induction fuel with
  | zero =>
    intro listed f w hs hl hJ
    have hr : Region.ready md ops listed = [] := by
      cases h : Region.ready md ops listed with
      | nil => rfl
      | cons i t =>
        have hm : i ∈ Region.ready md ops listed := by rw [h]; simp
        have := left_set (ready_mem hm).2.1
        omega
    exact ⟨hr, hdone _ _ _ hJ (hall listed hs hr)⟩
  | succ fuel ih =>
    intro listed f w hs hl hJ
    refine ⟨fun hr => hdone _ _ _ hJ (hall listed hs hr), fun i hi => ?_⟩
    obtain ⟨h1, h2, o, ho, ha⟩ := ready_mem hi
    have hb : listed.getD i false = false := by
      simpa [Array.getD, hs, h1] using h2
    obtain ⟨hg, hw⟩ := hstep _ f w i o hJ ho hb ha
    unfold wpOp
    rw [ho]
    simp only
    rw [if_pos (by simp [Region.wanted, hg])]
    refine Or.inl (Oper.wp_mono ?_ hw)
    rintro a' w' ⟨v, rfl, hJ'⟩
    rw [upd_put]
    refine ih _ _ _ (by simpa using hs) (by have := left_set h2; omega) ?_
    have e : (fun k => (listed.setIfInBounds i true).getD k false) = (fun k => if k = i then true else listed.getD k false) := by
      funext k
      by_cases hk : k = i
      · subst hk; simp [Array.getD, hs, h1]
      · rw [if_neg hk]
        simp only [Array.getD_eq_getD_getElem?, Array.getElem?_setIfInBounds]
        rw [if_neg (fun e => hk e.symm)]
    rw [e]
    exact hJ'

theorem region_inv {id : Nat} {w : World} (hm : P.follows .mixedOrders = true) (J : (Nat → Bool) → (Nat → Option Value) → World → Prop)
    (hord : ∀ (i : Nat) (o : Oper), ops[i]? = some o → ∀ e ∈ o.after, e.on < i)
    (h0 : J (fun _ => false) (fun _ => none) w.drew)
    (hdone : ∀ b f w, J b f w → (∀ i, i < ops.size → b i = true) → Q .normal ⟨upd T f, ds⟩ w)
    (hstep : ∀ (b : Nat → Bool) (f : Nat → Option Value) (w : World) (i : Nat) (o : Oper), J b f w → ops[i]? = some o → b i = false → (∀ e ∈ o.after, Region.binds .any e = true → b e.on = true) →
      o.guard = none ∧ o.wp P ⟨upd T f, ds⟩ w (fun a' w' => ∃ v, a' = (Act.mk (upd T f) ds).put o.dst v ∧ J (fun k => if k = i then true else b k) (upF o.dst v f) w') Q) :
    (Code.region id ops true).wp P Q ⟨T, ds⟩ w := by
  refine wp_region_any hm ?_
  have h := wpAny_inv (P := P) (Q := Q) (md := .any) (T := T) (ds := ds) J hord hdone hstep ops.size (Array.replicate ops.size false) (fun _ => none) w.drew (by simp) (by unfold left; simp [List.countP_replicate]) (by
    have e : (fun i => (Array.replicate ops.size false).getD i false) = (fun _ => false) := by
      funext i
      simp only [Array.getD_eq_getD_getElem?, Array.getElem?_replicate]
      split <;> rfl
    rw [e]
    exact h0)
  rw [upd_none] at h
  exact h
end
end Go.Mem
