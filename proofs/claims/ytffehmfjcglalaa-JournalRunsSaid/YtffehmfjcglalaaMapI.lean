/- Maps with keys of type int whose elements are taken as they are (structs, pointers): a map is a list of pairs that rises. No program is named here. -/
import Derived.Test.YtffehmfjcglalaaMem
import Derived.Maps.RangeWalk
import Derived.Maps.OwnOps
namespace Go.Mem
set_option linter.unusedVariables false
open Go.RowKit Go.Maps Go.WideShapes
open Go.WideElems (Fit rd rg pl rd_key rd_val rg_of)

/-! ### lists of pairs -/
abbrev Ent := Int × Value
/-- The element at a key. -/
def lk (L : List Ent) (i : Int) : Option Value := (L.find? (fun p => p.1 == i)).map (·.2)
def ins (x : Ent) : List Ent → List Ent
  | [] => [x]
  | y :: r => if x.1 < y.1 then x :: y :: r else y :: ins x r
def dl (L : List Ent) (i : Int) : List Ent := L.filter (fun p => !(p.1 == i))
def pt (L : List Ent) (i : Int) (v : Value) : List Ent := ins (i, v) (dl L i)
/-- The keys rise. -/
def Rise (L : List Ent) : Prop := L.Pairwise (fun p q => p.1 < q.1)

theorem mem_ins {x : Ent} : ∀ {L : List Ent} {y : Ent}, y ∈ ins x L ↔ y = x ∨ y ∈ L
  | [], y => by simp [ins]
  | z :: r, y => by
    unfold ins
    split
    · simp
    · simp [mem_ins (L := r)]
      constructor
      · rintro (h | h | h) <;> simp [h]
      · rintro (h | h | h) <;> simp [h]
theorem Rise.ins {x : Ent} : ∀ {L : List Ent}, Rise L → (∀ y ∈ L, y.1 ≠ x.1) → Rise (ins x L)
  | [], _, _ => by simp [Rise, Mem.ins]
  | z :: r, h, hn => by
    obtain ⟨h1, h2⟩ := List.pairwise_cons.1 h
    unfold Mem.ins
    have hz := hn z (by simp)
    split
    · rename_i hlt
      refine List.pairwise_cons.2 ⟨fun q hq => ?_, h⟩
      rcases List.mem_cons.1 hq with rfl | hq
      · exact hlt
      · have := h1 q hq; omega
    · refine List.pairwise_cons.2 ⟨fun q hq => ?_, Rise.ins h2 (fun y hy => hn y (by simp [hy]))⟩
      rcases mem_ins.1 hq with rfl | hq
      · omega
      · exact h1 q hq
theorem Rise.dl {L : List Ent} (h : Rise L) (i : Int) : Rise (dl L i) := h.filter _
theorem mem_dl {L : List Ent} {i : Int} {y : Ent} : y ∈ dl L i ↔ y ∈ L ∧ y.1 ≠ i := by simp [dl]
theorem Rise.pt {L : List Ent} (h : Rise L) (i : Int) (v : Value) : Rise (pt L i v) := (h.dl i).ins (fun y hy => (mem_dl.1 hy).2)
theorem mem_pt {L : List Ent} {i : Int} {v : Value} {y : Ent} : y ∈ pt L i v ↔ y = (i, v) ∨ (y ∈ L ∧ y.1 ≠ i) := by
  unfold pt
  rw [mem_ins, mem_dl]
theorem Rise.key {L : List Ent} (h : Rise L) {x y : Ent} (hx : x ∈ L) (hy : y ∈ L) (e : x.1 = y.1) : x = y := by
  induction L with
  | nil => simp at hx
  | cons z r ih =>
    obtain ⟨h1, h2⟩ := List.pairwise_cons.1 h
    rcases List.mem_cons.1 hx with rfl | hx' <;> rcases List.mem_cons.1 hy with rfl | hy'
    · rfl
    · have := h1 y hy'; omega
    · have := h1 x hx'; omega
    · exact ih h2 hx' hy'
theorem lk_some {L : List Ent} (h : Rise L) {i : Int} {v : Value} : lk L i = some v ↔ (i, v) ∈ L := by
  unfold lk
  constructor
  · intro e
    obtain ⟨p, hp, rfl⟩ := Option.map_eq_some_iff.1 e
    have h1 := List.mem_of_find?_eq_some hp
    have h2 := List.find?_some hp
    have h2 : p.1 = i := by simpa using h2
    subst h2
    exact h1
  · intro hm
    cases hf : L.find? (fun p => p.1 == i) with
    | none =>
      have := List.find?_eq_none.1 hf (i, v) hm
      simp at this
    | some p =>
      have h1 := List.mem_of_find?_eq_some hf
      have h2 : p.1 = i := by simpa using List.find?_some hf
      have := h.key h1 hm h2
      subst this
      rfl
theorem lk_none {L : List Ent} {i : Int} : lk L i = none ↔ ∀ p ∈ L, p.1 ≠ i := by
  unfold lk
  simp
theorem lk_pt {L : List Ent} (h : Rise L) (i : Int) (v : Value) (j : Int) : lk (pt L i v) j = if j = i then some v else lk L j := by
  split
  · rename_i e
    subst e
    exact (lk_some (h.pt _ _)).2 (mem_pt.2 (.inl rfl))
  · rename_i hne
    cases hl : lk L j with
    | none =>
      rw [lk_none] at hl ⊢
      intro p hp
      rcases mem_pt.1 hp with rfl | ⟨hp, _⟩
      · exact fun e => hne e.symm
      · exact hl p hp
    | some u => exact (lk_some (h.pt _ _)).2 (mem_pt.2 (.inr ⟨(lk_some h).1 hl, hne⟩))
theorem lk_dl {L : List Ent} (h : Rise L) (i j : Int) : lk (dl L i) j = if j = i then none else lk L j := by
  split
  · rename_i e
    subst e
    rw [lk_none]
    exact fun p hp => (mem_dl.1 hp).2
  · rename_i hne
    cases hl : lk L j with
    | none =>
      rw [lk_none] at hl ⊢
      exact fun p hp => hl p (mem_dl.1 hp).1
    | some u => exact (lk_some (h.dl _)).2 (mem_dl.2 ⟨(lk_some h).1 hl, hne⟩)
theorem Rise.ext : ∀ {L L' : List Ent}, Rise L → Rise L' → (∀ x, x ∈ L ↔ x ∈ L') → L = L'
  | [], [], _, _, _ => rfl
  | [], b :: s, _, _, h => by have := (h b).2 (by simp); simp at this
  | a :: r, [], _, _, h => by have := (h a).1 (by simp); simp at this
  | a :: r, b :: s, h1, h2, h => by
    obtain ⟨a1, a2⟩ := List.pairwise_cons.1 h1
    obtain ⟨b1, b2⟩ := List.pairwise_cons.1 h2
    have hab : a = b := by
      rcases List.mem_cons.1 ((h a).1 (by simp)) with e | ha
      · exact e
      · rcases List.mem_cons.1 ((h b).2 (by simp)) with e | hb
        · exact e.symm
        · have := a1 b hb
          have := b1 a ha
          omega
    subst hab
    rw [Rise.ext a2 b2 (fun x => ?_)]
    have hx := h x
    constructor
    · intro hm
      rcases List.mem_cons.1 (hx.1 (by simp [hm])) with e | h'
      · subst e; have := a1 x hm; omega
      · exact h'
    · intro hm
      rcases List.mem_cons.1 (hx.2 (by simp [hm])) with e | h'
      · subst e; have := b1 x hm; omega
      · exact h'
theorem Rise.ext_lk {L L' : List Ent} (h : Rise L) (h' : Rise L') (he : ∀ i, lk L i = lk L' i) : L = L' :=
  h.ext h' (fun x => by rw [show x = (x.1, x.2) from rfl, ← lk_some h, ← lk_some h', he])
theorem length_ins (x : Ent) : ∀ L : List Ent, (ins x L).length = L.length + 1
  | [] => rfl
  | y :: r => by
    unfold ins
    split
    · rfl
    · simp [length_ins x r]
theorem dl_none {L : List Ent} {i : Int} (h : lk L i = none) : dl L i = L := by
  rw [lk_none] at h
  exact List.filter_eq_self.2 (fun p hp => by simp [h p hp])
theorem length_dl {L : List Ent} (h : Rise L) (i : Int) : (dl L i).length + (if (lk L i).isSome then 1 else 0) = L.length := by
  induction L with
  | nil => simp [dl, lk]
  | cons z r ih =>
    obtain ⟨h1, h2⟩ := List.pairwise_cons.1 h
    by_cases e : z.1 = i
    · subst e
      have hr : lk r z.1 = none := lk_none.2 (fun p hp => by have := h1 p hp; omega)
      have hd : dl (z :: r) z.1 = dl r z.1 := by simp [dl]
      have hl : lk (z :: r) z.1 = some z.2 := by simp [lk]
      rw [hd, hl, dl_none hr]
      simp
    · have hd : dl (z :: r) i = z :: dl r i := by simp [dl, e]
      have hl : lk (z :: r) i = lk r i := by simp [lk, e]
      rw [hd, hl]
      have := ih h2
      simp only [List.length_cons]
      omega
theorem length_pt {L : List Ent} (h : Rise L) (i : Int) (v : Value) : (pt L i v).length = if (lk L i).isSome then L.length else L.length + 1 := by
  unfold pt
  rw [length_ins]
  have := length_dl h i
  split <;> simp_all <;> omega
/-- Keys in a range: not more pairs than keys. -/
theorem Rise.bound {L : List Ent} (h : Rise L) {a b : Int} (hk : ∀ p ∈ L, a ≤ p.1 ∧ p.1 < b) (hab : a ≤ b) : (L.length : Int) ≤ b - a := by
  induction L generalizing a with
  | nil => simp; omega
  | cons z r ih =>
    obtain ⟨h1, h2⟩ := List.pairwise_cons.1 h
    have hz := hk z (by simp)
    have := ih (a := z.1 + 1) h2 (fun p hp => ⟨by have := h1 p hp; omega, (hk p (by simp [hp])).2⟩) (by omega)
    simp only [List.length_cons]
    omega

/-! ### the words of the kit -/
def rawR (v : Value) : Option (DataW Value × List MemPlace) := some (.held v, [])
def enc (p : Ent) : Lit × DataW Value := (.int .i64 p.1, .held p.2)
def dat (L : List Ent) : DataW Value := .map (L.map enc)
theorem same_int (a b : Int) : (Lit.int .i64 a).sameKey (.int .i64 b) = (a == b) := by
  simp only [Lit.sameKey]
  by_cases h : a = b <;> simp [h]
theorem find_enc (L : List Ent) (i : Int) : (L.map enc).find? (fun p => p.1.sameKey (.int .i64 i)) = (L.find? (fun p => p.1 == i)).map enc := by
  rw [List.find?_map]
  congr 2
  funext p
  exact same_int p.1 i
theorem at_dat (L : List Ent) (i : Int) (z : DataW Value) : (dat L).atKey (.int .i64 i) z = match lk L i with | some v => .held v | none => z := by
  unfold dat DataW.atKey lk
  simp only [find_enc]
  cases L.find? (fun p => p.1 == i) <;> rfl
theorem has_dat (L : List Ent) (i : Int) : Maps.has (dat L) (.int .i64 i) = (lk L i).isSome := by
  unfold dat Maps.has lk
  simp only [List.any_map]
  rw [Option.isSome_map, List.isSome_find?]
  congr 1
  funext p
  exact same_int p.1 i
theorem size_dat (L : List Ent) : Maps.size (dat L) = L.length := by simp [dat, Maps.size]
theorem insert_enc (x : Ent) : ∀ L : List Ent, DataW.insert (enc x) (L.map enc) = (ins x L).map enc
  | [] => rfl
  | y :: r => by
    unfold ins
    simp only [List.map_cons, DataW.insert, enc, Lit.before, decide_eq_true_eq]
    split
    · rfl
    · have := insert_enc x r
      simp only [enc] at this
      simp only [List.map_cons, this, enc]
theorem filter_enc (L : List Ent) (i : Int) : (L.map enc).filter (fun p => !p.1.sameKey (.int .i64 i)) = (dl L i).map enc := by
  rw [List.filter_map]
  unfold dl
  congr 2
  funext p
  show (!(Lit.int .i64 p.1).sameKey (.int .i64 i)) = _
  rw [same_int]
theorem put_dat (L : List Ent) (i : Int) (v : Value) : (dat L).put (.int .i64 i) (.held v) = dat (pt L i v) := by
  unfold dat DataW.put pt
  simp only [filter_enc]
  exact congrArg DataW.map (insert_enc (i, v) _)
theorem del_dat (L : List Ent) (i : Int) : (dat L).del (.int .i64 i) = dat (dl L i) := by
  unfold dat DataW.del
  simp only [filter_enc]

/-! ### maps in memory -/
/-- The key's type is int. -/
def KeyI (P : Program) (k : TypeId) : Prop := P.underlying k = some (.int .i64)
/-- Block b is a map with these entries. -/
def MI (w : World) (P : Program) (k : TypeId) (b : Nat) (L : List Ent) : Prop := Rise L ∧ w.ownsMap P k rawR b L.length (dat L)
/-- An int of Go. -/
def I64 (i : Int) : Prop := -9223372036854775808 ≤ i ∧ i ≤ 9223372036854775807
theorem I64.wf {i : Int} (h : I64 i) : (Lit.int .i64 i).wf = true := by
  unfold I64 at h
  simp [Lit.wf, IntKind.min, IntKind.max, IntKind.signed, IntKind.bits]
  omega

section
variable {P : Program} {w w' : World} {k t e : TypeId} {b : Nat} {L : List Ent}
theorem MI.rise (h : MI w P k b L) : Rise L := h.1
theorem MI.lt (h : MI w P k b L) : b < w.heap.size := h.2.lt
theorem MI.made (w : World) (P : Program) (k : TypeId) : MI (w.alloc (.map #[] 0)) P k w.heap.size [] := ⟨List.Pairwise.nil, World.ownsMap_made w P k rawR⟩
theorem MI.same (h : MI w P k b L) (he : w'.heap[b]? = w.heap[b]?) : MI w' P k b L := by
  obtain ⟨hr, es, clock, hb, r⟩ := h
  exact ⟨hr, es, clock, he.trans hb, r⟩
theorem MI.chg {S : Nat → Prop} (h : MI w P k b L) (hc : Chg S w w') (hs : ¬ S b) : MI w' P k b L := h.same (hc.block b h.lt hs)
theorem MI.of_own {n : Nat} {D : DataW Value} (K : KeyI P k) (h : w.ownsMap P k rawR b n D) : ∃ L, D = dat L ∧ Rise L ∧ w.ownsMap P k rawR b L.length (dat L) := by
  have hK : Keyed P k := int_keyed K
  obtain ⟨es, clock, hb, F, hs, hD⟩ := h
  have hall : ∀ p ∈ (es.toList.map (rg P k rawR)).foldr DataW.insert [], ∃ x : Ent, p = enc x := by
    intro p hp
    obtain ⟨x, hx, rfl⟩ := List.mem_map.1 (mem_sorted.1 hp)
    obtain ⟨y, hy⟩ := F.reads x hx
    have hk := rd_key hy
    obtain ⟨z, hz, hzd⟩ := rd_val hy
    obtain ⟨i, hi, hl, _⟩ := Maps.keyOf_int_inv K hk
    refine ⟨(i, x.val), ?_⟩
    rw [rg_of hy]
    unfold rawR at hz
    cases hz
    exact Prod.ext hl hzd
  have hlist : ∀ l : List (Lit × DataW Value), (∀ p ∈ l, ∃ x : Ent, p = enc x) → ∃ L : List Ent, l = L.map enc := by
    intro l
    induction l with
    | nil => exact fun _ => ⟨[], rfl⟩
    | cons a r ih =>
      intro h
      obtain ⟨x, hx⟩ := h a (by simp)
      obtain ⟨L, hL⟩ := ih (fun p hp => h p (by simp [hp]))
      exact ⟨x :: L, by rw [hx, hL]; rfl⟩
  obtain ⟨L, hL⟩ := hlist _ hall
  have hr := Maps.sorted_sorted hK.one _ (Maps.fit_keys F) (Maps.fit_apart hK F)
  rw [hL, List.pairwise_map] at hr
  have hlen : es.size = L.length := by
    have := length_sorted (es.toList.map (rg P k rawR))
    rw [hL] at this
    simpa using this.symm
  refine ⟨L, by rw [hD, hL]; rfl, hr.imp (fun {a b} h => by simpa [enc, Lit.before] using h), es, clock, hb, F, by omega, by rw [hL]; rfl⟩
theorem MI.len (h : MI w P k b L) (ht : P.underlying t = some (.map k e)) (ty : TypeId) : (Builtin.len_ #[t] ty #[.map (some b)]).run P w = .ok (.int .i64 L.length) w := by
  have := h.2.len ht ty
  rwa [size_dat] at this
theorem MI.look (h : MI w P k b L) (K : KeyI P k) (ht : P.underlying t = some (.map k e)) {z : Value} (hz : (zeroValue e).run P w = .ok z w) {i : Int} (hi : I64 i) (c : Bool) :
    (Instr.lookup t (.map (some b)) (.int .i64 i) c).run P w = .ok (if c then .tuple #[(lk L i).getD z, .bool (lk L i).isSome] else (lk L i).getD z) w := by
  have hK : Keyed P k := int_keyed K
  have hkey := keyOf_int_mk K hi.wf
  have hr := h.rise
  obtain ⟨_, es, clock, hb, F, _, hD⟩ := h
  have hat := fun zd => at_dat L i zd
  rw [hD] at hat
  rcases Maps.fit_look c hK ht hz hb F hkey with ⟨hrun, _, ha⟩ | ⟨e0, y, _, _, hrun, hRv, ha, _⟩
  · cases hl : lk L i with
    | none => rw [hrun]; rfl
    | some v =>
      have h1 := hat .nil
      rw [ha, hl] at h1
      cases h1
  · cases hl : lk L i with
    | none =>
      have h1 := hat .nil
      rw [ha, hl] at h1
      unfold rawR at hRv
      cases hRv
      cases h1
    | some v =>
      have h1 := hat .nil
      rw [ha, hl] at h1
      unfold rawR at hRv
      cases hRv
      cases h1
      rw [hrun]
      rfl
theorem MI.store (h : MI w P k b L) (K : KeyI P k) (ht : P.underlying t = some (.map k e)) (hn : L.length < maxLen) {i : Int} (hi : I64 i) (v : Value) :
    ∃ w', (Instr.mapUpdate t (.map (some b)) (.int .i64 i) v).run P w = .ok () w' ∧ MI w' P k b (pt L i v) ∧ Chg (fun k => k = b) w w' ∧ w'.heap.size = w.heap.size := by
  have hK : Keyed P k := int_keyed K
  obtain ⟨w', hrun, h1, h2⟩ := h.2.store hK ht hn (keyOf_int_mk K hi.wf) (val := v) (d := .held v) (ps := []) rfl
  rw [put_dat] at h1
  obtain ⟨L', hL', hr', ho⟩ := MI.of_own K h1
  have e : L' = pt L i v := by
    have := hL'
    unfold dat at this
    injection this with this
    have hinj : ∀ (A B : List Ent), A.map enc = B.map enc → A = B := by
      intro A
      induction A with
      | nil => intro B hB; cases B <;> simp at hB; rfl
      | cons a r ih =>
        intro B hB
        cases B with
        | nil => simp at hB
        | cons c s =>
          simp only [List.map_cons, List.cons.injEq] at hB
          rw [ih s hB.2]
          have := hB.1
          simp [enc] at this
          rw [Prod.ext this.1 this.2]
    exact (hinj _ _ this).symm
  subst e
  refine ⟨w', hrun, ⟨hr', ho⟩, ?_, ?_⟩
  · obtain ⟨es, clock, es', clock', hb, rfl⟩ := h2
    exact ⟨rfl, rfl, rfl, by simp [ChangeMaps.setBlock], fun j hj hne => ChangeMaps.heap_setBlock_other hb _ hne⟩
  · obtain ⟨es, clock, es', clock', hb, rfl⟩ := h2
    simp [ChangeMaps.setBlock]
theorem dat_inj {A B : List Ent} (h : dat A = dat B) : A = B := by
  unfold dat at h
  injection h with h
  induction A generalizing B with
  | nil => cases B with
    | nil => rfl
    | cons c s => simp at h
  | cons a r ih =>
    cases B with
    | nil => simp at h
    | cons c s =>
      simp only [List.map_cons, List.cons.injEq] at h
      rw [ih h.2]
      have := h.1
      simp [enc] at this
      rw [Prod.ext this.1 this.2]
theorem MI.of_own' {n : Nat} (K : KeyI P k) (h : w.ownsMap P k rawR b n (dat L)) : MI w P k b L := by
  obtain ⟨L', e, h1, h2⟩ := MI.of_own K h
  rw [← dat_inj e] at h1 h2
  exact ⟨h1, h2⟩
theorem turned_chg (h : w.mapTurned w' b) : Chg (fun k => k = b) w w' ∧ w'.heap.size = w.heap.size := by
  obtain ⟨es, clock, es', clock', hb, rfl⟩ := h
  exact ⟨⟨rfl, rfl, rfl, by simp [ChangeMaps.setBlock], fun j hj hne => ChangeMaps.heap_setBlock_other hb _ hne⟩, by simp [ChangeMaps.setBlock]⟩
theorem MI.drop (h : MI w P k b L) (K : KeyI P k) (ht : P.underlying t = some (.map k e)) {i : Int} (hi : I64 i) (ty : TypeId) :
    ∃ w', (Builtin.delete_ #[t, k] ty #[.map (some b), .int .i64 i]).run P w = .ok (.tuple #[]) w' ∧ MI w' P k b (dl L i) ∧ Chg (fun k => k = b) w w' ∧ w'.heap.size = w.heap.size := by
  obtain ⟨w', hrun, h1, h2⟩ := h.2.drop (int_keyed K) ht (keyOf_int_mk K hi.wf) ty
  rw [del_dat] at h1
  exact ⟨w', hrun, MI.of_own' K h1, (turned_chg h2).1, (turned_chg h2).2⟩

/-! ### ranging -/
/-- Block r is an iterator over the map in block b; 'left i': the entry at key i is still to come. -/
def RI (w : World) (P : Program) (k : TypeId) (b r : Nat) (L : List Ent) (left : Int → Bool) : Prop :=
  Rise L ∧ ∃ lf cnt, w.ranges P k rawR b r L.length (dat L) lf cnt ∧ ∀ i, lf (.int .i64 i) = left i
theorem RI.mi {r : Nat} {left : Int → Bool} (h : RI w P k b r L left) : MI w P k b L := by
  obtain ⟨h1, lf, cnt, h2, _⟩ := h
  exact ⟨h1, h2.owns⟩
theorem RI.lt {r : Nat} {left : Int → Bool} (h : RI w P k b r L left) : r < w.heap.size := by
  obtain ⟨h1, lf, cnt, h2, _⟩ := h
  exact h2.lt
theorem RI.ne {r : Nat} {left : Int → Bool} (h : RI w P k b r L left) : r ≠ b := by
  obtain ⟨h1, lf, cnt, h2, _⟩ := h
  exact h2.ne
theorem RI.same {r : Nat} {left : Int → Bool} (h : RI w P k b r L left) (hb : w'.heap[b]? = w.heap[b]?) (hr : w'.heap[r]? = w.heap[r]?) : RI w' P k b r L left := by
  obtain ⟨h1, lf, cnt, ⟨es, clock, since, seen, c0, g1, g2, g3, g4, g5, g6⟩, h3⟩ := h
  exact ⟨h1, lf, cnt, ⟨es, clock, since, seen, c0, hb.trans g1, g2, g3, g4, hr.trans g5, g6⟩, h3⟩
theorem RI.chg {S : Nat → Prop} {r : Nat} {left : Int → Bool} (h : RI w P k b r L left) (hc : Chg S w w') (hb : ¬ S b) (hr : ¬ S r) : RI w' P k b r L left :=
  h.same (hc.block b h.mi.lt hb) (hc.block r h.lt hr)
theorem rangeLeft_same {r : Nat} (hb : w'.heap[b]? = w.heap[b]?) (hr : w'.heap[r]? = w.heap[r]?) : w'.rangeLeft b r = w.rangeLeft b r := by
  unfold World.rangeLeft
  rw [hb, hr]
theorem RI.left_chg {S : Nat → Prop} {r : Nat} {left : Int → Bool} (h : RI w P k b r L left) (hc : Chg S w w') (hb : ¬ S b) (hr : ¬ S r) : w'.rangeLeft b r = w.rangeLeft b r :=
  rangeLeft_same (hc.block b h.mi.lt hb) (hc.block r h.lt hr)
theorem grown_chg {row : Option Nat} (hg : w.grownBy w' row) : Chg (fun k => some k = row) w w' :=
  (Chg.refl _ w).grown hg (fun k e _ => e.symm)
theorem MI.range (h : MI w P k b L) (K : KeyI P k) (ht : P.underlying t = some (.map k e)) :
    ∃ w', (Instr.range t (.map (some b))).run P w = .ok (.pointer (some ⟨w.heap.size, 0, none⟩)) w' ∧ RI w' P k b w.heap.size L (fun i => (lk L i).isSome) ∧ New w w' ∧ w'.heap.size = w.heap.size + 1 := by
  obtain ⟨w', hrun, h1, h2, h3⟩ := h.2.range (int_keyed K) ht
  exact ⟨w', hrun, ⟨h.1, _, _, h1, fun i => has_dat L i⟩, (grown_chg h2).mono (fun k _ e => by cases e), h3⟩
theorem RI.next {r : Nat} {left : Int → Bool} (h : RI w P k b r L left) (K : KeyI P k) (ty : TypeId) :
    ((∀ i, left i = false) ∧ (Instr.next (.pointer (some ⟨r, 0, none⟩)) false ty).run P w = .ok (.tuple #[.bool false]) w) ∨
    ∃ i v w', (i, v) ∈ L ∧ I64 i ∧ left i = true ∧ (Instr.next (.pointer (some ⟨r, 0, none⟩)) false ty).run P w = .ok (.tuple #[.bool true, .int .i64 i, v]) w' ∧
      RI w' P k b r L (fun x => left x && !(x == i)) ∧ Chg (fun k => k = r) w w' ∧ w'.heap.size = w.heap.size ∧ w'.rangeLeft b r < w.rangeLeft b r ∧ (Instr.entry (.pointer (some ⟨r, 0, none⟩))).run P w' = .ok (.tuple #[.int .i64 i, v]) w' := by
  obtain ⟨h1, lf, cnt, h2, h3⟩ := h
  rcases h2.next (int_keyed K) ty with ⟨h0, hl, hrun⟩ | ⟨key, v, kl, y, w', cnt', hkey, hlk, hv, hat, hrun, hrg, hlt, hgr, hsz, hen⟩
  · exact .inl ⟨fun i => by rw [← h3, hl], hrun⟩
  · obtain ⟨i, rfl, rfl, hwf⟩ := Maps.keyOf_int_inv K hkey
    have hi : I64 i := by
      unfold I64
      simp [Lit.wf, IntKind.min, IntKind.max, IntKind.signed, IntKind.bits] at hwf
      omega
    have ha := hat .nil
    rw [at_dat] at ha
    unfold rawR at hv
    cases hv
    refine .inr ⟨i, v, w', ?_, hi, by rw [← h3]; exact hlk, hrun, ⟨h1, _, _, hrg, fun x => by show (lf (.int .i64 x) && !(Lit.int .i64 x).sameKey (.int .i64 i)) = _; rw [h3, same_int]⟩, (grown_chg hgr).mono (fun k _ e => by injection e), hsz, by rw [hrg.left_eq, h2.left_eq]; exact hlt, hen⟩
    cases hl : lk L i with
    | none => rw [hl] at ha; cases ha
    | some u =>
      rw [hl] at ha
      cases ha
      exact (lk_some h1).1 hl
end

/-! ### at the operation -/
section
variable {P : Program} (w : World) {k t e : TypeId} {b : Nat} {L : List Ent} {ops : Array Oper} {rest : List Oper} {o : Oper} {a : Act} {Q : Exit → Act → World → Prop}
theorem wpList_lookI (hg : o.guard = none) (m x : Operand) (c : Bool) (hop : o.op = Op.lookup t m x c) (K : KeyI P k) (ht : P.underlying t = some (.map k e)) {z : Value} (hz : (zeroValue e).run P w = .ok z w)
    (hm : a.eval m = .map (some b)) (h : MI w P k b L) {i : Int} (hi : I64 i) (hx : a.eval x = .int .i64 i)
    (hK : wpList P ops Q rest (a.put o.dst (if c then .tuple #[(lk L i).getD z, .bool (lk L i).isSome] else (lk L i).getD z)) w) : wpList P ops Q (o :: rest) a w := by
  refine wpList_plain hg fun K' hK' => ?_
  unfold Oper.wp
  have hrun := h.look K ht hz hi c
  simp [execOp, hop, hm, hx, hrun, Result.andThen]
  exact hK' _ _ hK
theorem wpList_storeI (hg : o.guard = none) (m x u : Operand) (hop : o.op = Op.mapUpdate t m x u) (K : KeyI P k) (ht : P.underlying t = some (.map k e))
    (hm : a.eval m = .map (some b)) (h : MI w P k b L) (hn : L.length < maxLen) {i : Int} (hi : I64 i) (hx : a.eval x = .int .i64 i) {v : Value} (hv : a.eval u = v)
    (hK : ∀ w', MI w' P k b (pt L i v) → Chg (fun k => k = b) w w' → w'.heap.size = w.heap.size → wpList P ops Q rest (a.put o.dst undef) w') : wpList P ops Q (o :: rest) a w := by
  refine wpList_plain hg fun K' hK' => ?_
  obtain ⟨w', hrun, h1, h2, h3⟩ := h.store K ht hn hi v
  unfold Oper.wp
  simp [execOp, hop, hm, hx, hv, hrun, Result.andThen]
  exact hK' _ _ (hK w' h1 h2 h3)
theorem wpList_dropI (hg : o.guard = none) (m x : Operand) (hop : o.op = Op.call { callee := Callee.builtin Builtin.delete, args := #[m, x], argTypes := #[t, k] }) (K : KeyI P k) (ht : P.underlying t = some (.map k e))
    (hm : a.eval m = .map (some b)) (h : MI w P k b L) {i : Int} (hi : I64 i) (hx : a.eval x = .int .i64 i)
    (hK : ∀ w', MI w' P k b (dl L i) → Chg (fun k => k = b) w w' → w'.heap.size = w.heap.size → wpList P ops Q rest (a.put o.dst (.tuple #[])) w') : wpList P ops Q (o :: rest) a w := by
  refine wpList_plain hg fun K' hK' => ?_
  obtain ⟨w', hrun, h1, h2, h3⟩ := h.drop K ht hi o.type
  unfold Oper.wp
  simp [execOp, hop, resolve, invoke, builtin, hm, hx, hrun, Result.andThen]
  exact hK' _ _ (hK w' h1 h2 h3)
theorem wpList_lenI (hg : o.guard = none) (m : Operand) (hop : o.op = Op.call { callee := Callee.builtin Builtin.len, args := #[m], argTypes := #[t] }) (ht : P.underlying t = some (.map k e))
    (hm : a.eval m = .map (some b)) (h : MI w P k b L) (hK : wpList P ops Q rest (a.put o.dst (.int .i64 L.length)) w) : wpList P ops Q (o :: rest) a w := by
  refine wpList_plain hg fun K' hK' => ?_
  unfold Oper.wp
  simp [execOp, hop, resolve, invoke, builtin, hm, h.len ht o.type, Result.andThen]
  exact hK' _ _ hK
theorem wpList_rangeI (hg : o.guard = none) (m : Operand) (hop : o.op = Op.range t m) (K : KeyI P k) (ht : P.underlying t = some (.map k e)) (hm : a.eval m = .map (some b)) (h : MI w P k b L)
    (hK : ∀ w', RI w' P k b w.heap.size L (fun i => (lk L i).isSome) → New w w' → w'.heap.size = w.heap.size + 1 → wpList P ops Q rest (a.put o.dst (.pointer (some ⟨w.heap.size, 0, none⟩))) w') : wpList P ops Q (o :: rest) a w := by
  refine wpList_plain hg fun K' hK' => ?_
  obtain ⟨w', hrun, h1, h2, h3⟩ := h.range K ht
  unfold Oper.wp
  simp [execOp, hop, hm, hrun, Result.andThen]
  exact hK' _ _ (hK w' h1 h2 h3)
theorem wpList_nextI (hg : o.guard = none) (it : Operand) (hop : o.op = Op.next it false) (K : KeyI P k) {r : Nat} {left : Int → Bool} (hit : a.eval it = .pointer (some ⟨r, 0, none⟩)) (h : RI w P k b r L left)
    {β : Type} (mk : β → Value) (inv : ∀ i v, (i, v) ∈ L → ∃ c, v = mk c)
    (hDone : (∀ i, left i = false) → wpList P ops Q rest (a.put o.dst (.tuple #[.bool false])) w)
    (hMore : ∀ (i : Int) (c : β) (w' : World), (i, mk c) ∈ L → I64 i → left i = true → RI w' P k b r L (fun x => left x && !(x == i)) → Chg (fun k => k = r) w w' → w'.heap.size = w.heap.size → w'.rangeLeft b r < w.rangeLeft b r →
      (Instr.entry (.pointer (some ⟨r, 0, none⟩))).run P w' = .ok (.tuple #[.int .i64 i, mk c]) w' → wpList P ops Q rest (a.put o.dst (.tuple #[.bool true, .int .i64 i, mk c])) w') :
    wpList P ops Q (o :: rest) a w := by
  refine wpList_plain hg fun K' hK' => ?_
  unfold Oper.wp
  rcases h.next K o.type with ⟨hl, hrun⟩ | ⟨i, v, w', hm, hi, hl, hrun, h1, h2, h3, h4, h5⟩
  · simp [execOp, hop, hit, hrun, Result.andThen]
    exact hK' _ _ (hDone hl)
  · obtain ⟨c, rfl⟩ := inv i v hm
    simp [execOp, hop, hit, hrun, Result.andThen]
    exact hK' _ _ (hMore i c w' hm hi hl h1 h2 h3 h4 h5)
end

/-! ### sums over a map, in any order -/
/-- What has been seen. -/
def sumL (f : Ent → Nat) (left : Int → Bool) (L : List Ent) : Nat := ((L.filter (fun p => !left p.1)).map f).sum
theorem sumL_start (f : Ent → Nat) (L : List Ent) : sumL f (fun i => (lk L i).isSome) L = 0 := by
  unfold sumL
  have : L.filter (fun p => !(lk L p.1).isSome) = [] := by
    rw [List.filter_eq_nil_iff]
    intro p hp
    cases hl : lk L p.1 with
    | none => exact absurd rfl (lk_none.1 hl p hp)
    | some u => simp
  rw [this]
  rfl
theorem sumL_end {f : Ent → Nat} {left : Int → Bool} {L : List Ent} (h : ∀ i, left i = false) : sumL f left L = (L.map f).sum := by
  unfold sumL
  rw [List.filter_eq_self.2 (fun p _ => by simp [h p.1])]
theorem sumL_step {f : Ent → Nat} {left : Int → Bool} {L : List Ent} (hr : Rise L) {i : Int} {v : Value} (hm : (i, v) ∈ L) (hl : left i = true) : sumL f (fun x => left x && !(x == i)) L = sumL f left L + f (i, v) := by
  unfold sumL
  simp only [Bool.not_and, Bool.not_not]
  induction L with
  | nil => simp at hm
  | cons z r ih =>
    obtain ⟨h1, h2⟩ := List.pairwise_cons.1 hr
    rcases List.mem_cons.1 hm with rfl | hm'
    · have e : r.filter (fun p => !left p.1 || p.1 == i) = r.filter (fun p => !left p.1) := by
        refine List.filter_congr (fun p hp => ?_)
        have := h1 p hp
        have hne : (p.1 == i) = false := beq_eq_false_iff_ne.2 (by have : i < p.1 := this; omega)
        simp [hne]
      rw [List.filter_cons_of_pos (by simp), List.filter_cons_of_neg (by simp [hl]), e, List.map_cons, List.sum_cons]
      omega
    · have hz := h1 _ hm'
      have hne : (z.1 == i) = false := beq_eq_false_iff_ne.2 (by have : z.1 < i := hz; omega)
      have := ih h2 hm'
      cases hz2 : left z.1 with
      | true => rw [List.filter_cons_of_neg (by simp [hz2, hne]), List.filter_cons_of_neg (by simp [hz2]), this]
      | false => rw [List.filter_cons_of_pos (by simp [hz2]), List.filter_cons_of_pos (by simp [hz2]), List.map_cons, List.map_cons, List.sum_cons, List.sum_cons, this]; omega
end Go.Mem
