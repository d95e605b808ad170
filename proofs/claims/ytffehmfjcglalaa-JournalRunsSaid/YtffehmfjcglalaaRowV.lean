/- Slices that own their row, all of whose cells are of a kind: append of a slice or of a string. No program is named here. -/
import Derived.Test.YtffehmfjcglalaaMem
import Derived.Deep.Upon
namespace Go.Mem
set_option linter.unusedVariables false
open Go.RowKit

theorem setCells_row (g : Nat) (t : TypeId) (x : Nat × Nat) : ∀ (vs pre olds post : List Value) (w : World), olds.length = vs.length → w.heap[g]? = some (.cells (pre ++ olds ++ post).toArray t x) → (w.setCells g pre.length vs).heap[g]? = some (.cells (pre ++ vs ++ post).toArray t x)
  | [], pre, olds, post, w, hl, h => by
    obtain rfl : olds = [] := List.eq_nil_of_length_eq_zero (by simpa using hl)
    exact h
  | v :: r, pre, [], post, w, hl, h => by simp at hl
  | v :: r, pre, o :: os, post, w, hl, h => by
    have h1 : (w.setCell ⟨g, pre.length, none⟩ v).heap[g]? = some (.cells ((pre ++ [v]) ++ os ++ post).toArray t x) := by
      simp [World.setCell, Array.getElem?_modify, h]
    have := setCells_row g t x r (pre ++ [v]) os post _ (by simpa using hl) h1
    simp only [World.setCells]
    rw [List.length_append, List.length_singleton] at this
    rw [this]
    simp
theorem setCells_size (g : Nat) : ∀ (vs : List Value) (o : Nat) (w : World), (w.setCells g o vs).heap.size = w.heap.size
  | [], _, _ => rfl
  | v :: r, o, w => by
    simp only [World.setCells]
    rw [setCells_size g r]
    simp [World.setCell]
theorem setCells_chg (g : Nat) : ∀ (vs : List Value) (o : Nat) (w : World), Chg (fun k => k = g) w (w.setCells g o vs)
  | [], _, w => Chg.refl _ w
  | v :: r, o, w => ((Chg.refl (fun k => k = g) w).setCell (p := ⟨g, o, none⟩) (fun _ => rfl) v).trans (setCells_chg g r (o + 1) _) (fun _ _ h => h)

/-- The block of a slice. -/
def blkV : Value → Option Nat
  | .slice A _ _ => blk A
  | _ => none
/-- A slice that owns its row: its elements are xs; the row's cells are of the kind C. -/
def RowV (w : World) (t : TypeId) (C : Value → Prop) (v : Value) (xs : List Value) : Prop :=
  (v = .slice none 0 0 ∧ xs = []) ∨ ∃ g cp rest, v = .slice (some ⟨g, 0, none⟩) xs.length cp ∧ cp ≤ maxLen ∧ cp = xs.length + rest.length ∧ Blk w g t (xs ++ rest).toArray ∧ ∀ u ∈ xs ++ rest, C u
section
variable {P : Program} {w w' : World} {t e : TypeId} {C : Value → Prop} {v : Value} {xs : List Value}
theorem RowV.nil (w : World) (t : TypeId) (C : Value → Prop) : RowV w t C (.slice none 0 0) [] := .inl ⟨rfl, rfl⟩
theorem RowV.shape (h : RowV w t C v xs) : ∃ A c, v = .slice A xs.length c ∧ xs.length ≤ c ∧ c ≤ maxLen := by
  rcases h with ⟨rfl, rfl⟩ | ⟨g, cp, rest, rfl, h1, h2, _⟩
  · exact ⟨none, 0, rfl, Nat.le_refl _, Nat.zero_le _⟩
  · exact ⟨_, _, rfl, by omega, h1⟩
theorem RowV.rd {A : Option Addr} {n c : Nat} (h : RowV w t C (.slice A n c) xs) : Rd w A n xs := by
  rcases h with ⟨hv, rfl⟩ | ⟨g, cp, rest, hv, h1, h2, h3, _⟩
  · injection hv with _ hn _; subst hn; exact Rd.nil w A
  · injection hv with hA hn hc
    subst hA hn hc
    refine ⟨rfl, fun _ => ⟨_, rfl, fun j u hu => ?_⟩⟩
    rw [Addr.add_lit, Nat.zero_add]
    refine h3.cell j ?_
    have hj : j < xs.length := (List.getElem?_eq_some_iff.1 hu).1
    simpa [List.getElem?_append_left hj] using hu
theorem RowV.lt (h : RowV w t C v xs) {k : Nat} (hk : blkV v = some k) : k < w.heap.size := by
  rcases h with ⟨rfl, rfl⟩ | ⟨g, cp, rest, rfl, h1, h2, h3, _⟩
  · cases hk
  · obtain rfl : g = k := by simpa [blkV, blk] using hk
    exact h3.lt
theorem RowV.chg {S : Nat → Prop} (h : RowV w t C v xs) (hc : Chg S w w') (hs : ∀ k, blkV v = some k → ¬ S k) : RowV w' t C v xs := by
  rcases h with h | ⟨g, cp, rest, rfl, h1, h2, h3, h4⟩
  · exact .inl h
  · exact .inr ⟨g, cp, rest, rfl, h1, h2, h3.chg hc (hs g rfl), h4⟩
theorem RowV.new (h : RowV w t C v xs) (hc : New w w') : RowV w' t C v xs := h.chg hc (fun _ _ hf => hf)
/-- The row's block holds only cells of the kind. -/
theorem RowV.kind (h : RowV w t C v xs) {k : Nat} (hk : blkV v = some k) : ∃ cs : List Value, Blk w k t cs.toArray ∧ ∀ u ∈ cs, C u := by
  rcases h with ⟨rfl, rfl⟩ | ⟨g, cp, rest, rfl, h1, h2, h3, h4⟩
  · cases hk
  · obtain rfl : g = k := by simpa [blkV, blk] using hk
    exact ⟨_, h3, h4⟩
theorem RowV.ne {t' : TypeId} {cs : Array Value} {g : Nat} (h : RowV w t C v xs) (hb : Blk w g t' cs) (hne : t' ≠ t) : blkV v ≠ some g := fun hk => by
  obtain ⟨cs', h1, _⟩ := h.kind hk
  unfold Blk at hb h1
  rw [hb] at h1
  injection h1 with h1
  injection h1 with h1 h2
  exact hne h2
theorem RowV.all (h : RowV w t C v xs) : ∀ u ∈ xs, C u := by
  rcases h with ⟨rfl, rfl⟩ | ⟨g, cp, rest, rfl, h1, h2, h3, h4⟩
  · simp
  · exact fun u hu => h4 u (by simp [hu])
/-- The source of an append: a slice that reads. -/
theorem src_rd {tx e' : TypeId} (hk : P.underlying tx = some (.slice e')) {A : Option Addr} {m c : Nat} {news : List Value} (hr : Rd w A m news) (h1 : ∀ u ∈ news, u.oneCell' = true) : Src P 1 tx (.slice A m c) m news w := by
  cases A with
  | none =>
    have hm : m = 0 := by
      rcases Nat.eq_zero_or_pos m with h0 | h0
      · exact h0
      · obtain ⟨ad, h, _⟩ := hr.2 h0; cases h
    subst hm
    obtain rfl : news = [] := List.eq_nil_of_length_eq_zero hr.1
    exact Src.ofNil w hk c
  | some ad =>
    refine Src.ofSlice w hk ad m c news (by rw [hr.1]; omega) (fun j u hu => ?_) h1
    have hj := (List.getElem?_eq_some_iff.1 hu).1
    obtain ⟨ad', h, hc⟩ := hr.2 (by have := hr.1; omega)
    injection h with h
    subst h
    exact hc j u hu
theorem src_str {tx : TypeId} (hk : P.underlying tx = some .string) (s : ByteArray) : Src P 1 tx (.string s) s.data.toList.length (bs s.data.toList) w := by
  have := Src.ofString (P := P) w hk s
  have e : byteCells s = bs s.data.toList := rfl
  rw [e] at this
  have e2 : s.data.toList.length = s.size := by rw [Array.length_toList]; rfl
  rw [e2]
  exact this
theorem zero_cells1 {z : Value} (hz : z.cells = #[z]) (k : Nat) : (Builtin.zeroCells z.cells k).toList = List.replicate k z := by
  rw [hz]
  apply List.ext_getElem
  · simp [Builtin.zeroCells]
  · intro i h1 h2
    simp [Builtin.zeroCells]
    rw [Nat.mod_one]
    rfl
/-- append to a slice that owns its row. -/
theorem RowV.app {z : Value} {bytes : Nat} (hE : Elem P t e z bytes) (hzc : z.cells = #[z]) (hCz : C z) (tx ty : TypeId) (h : RowV w e C v xs) {x : Value} {m : Nat} {news : List Value} (hs : Src P 1 tx x m news w) (hC : ∀ u ∈ news, C u)
    (h63 : xs.length + m ≤ 4611686018427387904) (hbytes : (xs.length + m) * bytes ≤ 140737488355328) :
    ∃ v' w', (Builtin.append_ #[t, tx] ty #[v, x]).run P w = .ok v' w' ∧ RowV w' e C v' (xs ++ news) ∧ w.grownBy w' (blkV v) ∧ (blkV v' = blkV v ∨ blkV v' = some w.heap.size ∧ New w w') ∧ RowV w' e C v xs := by
  obtain ⟨ht, ⟨i, hi, hz, hsize, hby⟩, hzs⟩ := hE
  have hnl : news.length = m := by have := hs.newsLen; omega
  have hs' : Src P i.size tx x m news w := by rw [hsize]; exact hs
  by_cases h0 : m = 0
  · subst h0
    obtain rfl : news = [] := List.eq_nil_of_length_eq_zero hnl
    obtain ⟨A, c, rfl, h1, h2⟩ := h.shape
    exact ⟨_, w, run_append_nothing w t tx ty e i ht hi A xs.length c h1 x hs', by simpa using h, World.grownBy.refl w _, .inl rfl, h⟩
  · -- a new row
    have grow : ∀ (A : Option Addr) (cp : Nat), v = .slice A xs.length cp → cp < xs.length + m → (Builtin.firstCells i.size xs.length (.slice A xs.length cp)).run P w.drew = .ok xs.toArray w.drew →
        ∃ v' w', (Builtin.append_ #[t, tx] ty #[v, x]).run P w = .ok v' w' ∧ RowV w' e C v' (xs ++ news) ∧ w.grownBy w' (blkV v) ∧ (blkV v' = blkV v ∨ blkV v' = some w.heap.size ∧ New w w') ∧ RowV w' e C v xs := by
      intro A cp hv hlt hf
      subst hv
      have hge := grownCap_ge w (xs.length + m) cp e
      have hrun := run_append_grow_src (P := P) w t tx ty e i z ht hi hz A xs.length cp xs hf x m news hs' hlt (by omega) (by rw [hby]; exact growslice_fits (by omega) hbytes)
      refine ⟨_, _, hrun, .inr ⟨w.heap.size, _, List.replicate (grownCap w (xs.length + m) cp e - (xs.length + m)) z, ?_, grownCap_le_maxLen w (xs.length + m) cp e (by unfold maxLen; omega), ?_, ?_, ?_⟩, ⟨rfl, rfl, rfl, by simp, fun k hk _ => heap_alloc_old w.drew _ hk⟩, .inr ⟨rfl, ((Chg.refl _ w).drew).alloc _⟩, h.new (((Chg.refl _ w).drew).alloc _)⟩
      · rw [List.length_append, hnl]
      · rw [List.length_append, hnl, List.length_replicate]; omega
      · have e1 : (xs ++ news ++ List.replicate (grownCap w (xs.length + m) cp e - (xs.length + m)) z).toArray = (xs ++ news).toArray ++ Builtin.zeroCells z.cells (grownCap w (xs.length + m) cp e - (xs.length + m)) := by
          apply Array.ext'
          rw [Array.toList_append, zero_cells1 hzc]
        rw [e1]
        exact Blk.new w.drew e _
      · intro u hu
        simp only [List.mem_append, List.mem_replicate] at hu
        rcases hu with (hu | hu) | ⟨_, rfl⟩
        · exact h.all u hu
        · exact hC u hu
        · exact hCz
    rcases h with ⟨rfl, rfl⟩ | ⟨g, cp, rest, rfl, h1, h2, h3, h4⟩
    · exact grow none 0 rfl (by simp; omega) (by simp [Builtin.firstCells])
    · by_cases hroom : xs.length + m ≤ cp
      · -- in place
        have hcell : ∀ j, j < news.length → (w.cell? ⟨g, 0 + xs.length * i.size + j, none⟩).isSome = true := by
          intro j hj
          have hlt : xs.length * i.size + j < (xs ++ rest).length := by rw [List.length_append, hsize]; omega
          rw [Nat.zero_add, h3.cell (xs.length * i.size + j) (u := (xs ++ rest)[xs.length * i.size + j]) (by simp)]
          rfl
        have hrun := run_append_room_src (P := P) w t tx ty e i ht hi g 0 xs.length cp x m news hs' hroom hcell (fun j hj => h3.frozen _)
        obtain ⟨r1, r2, hr, hr1⟩ : ∃ r1 r2, rest = r1 ++ r2 ∧ r1.length = news.length := ⟨rest.take news.length, rest.drop news.length, (List.take_append_drop _ _).symm, by rw [List.length_take]; omega⟩
        subst hr
        have hrow := setCells_row g e (0, 0) news xs r1 r2 w hr1 (by simpa [Blk, List.append_assoc] using h3)
        have hoff : 0 + xs.length * i.size = xs.length := by rw [hsize]; omega
        rw [hoff] at hrun
        refine ⟨_, _, hrun, .inr ⟨g, cp, r2, by rw [List.length_append, hnl], h1, ?_, hrow, fun u hu => ?_⟩, ?_, .inl rfl, .inr ⟨g, cp, news ++ r2, rfl, h1, by simp only [List.length_append] at h2 ⊢; omega, by have := hrow; rw [List.append_assoc] at this; exact this, fun u hu => by
          simp only [List.mem_append] at hu
          rcases hu with hu | hu | hu
          · exact h4 u (by simp [hu])
          · exact hC u hu
          · exact h4 u (by simp [hu])⟩⟩
        · simp only [List.length_append] at h2 ⊢; omega
        · simp only [List.mem_append] at hu
          rcases hu with (hu | hu) | hu
          · exact h4 u (by simp [hu])
          · exact hC u hu
          · exact h4 u (by simp [hu])
        · have hc := setCells_chg g news xs.length w
          exact ⟨hc.os, hc.tape, hc.output, hc.size, fun k hk hne => hc.block k hk (fun e => hne (by rw [e]; rfl))⟩
      · refine grow _ cp rfl (by omega) ?_
        have hl : xs.length = xs.length * i.size := by rw [hsize]; omega
        exact run_firstCells_some (P := P) w.drew i.size xs.length ⟨g, 0, none⟩ xs.length cp xs hl (fun j u hu => by
          rw [Addr.add_lit, Nat.zero_add]
          have hj := (List.getElem?_eq_some_iff.1 hu).1
          exact h3.drew.cell j (by simpa [List.getElem?_append_left hj] using hu))
theorem wpList_appV {z : Value} {bytes : Nat} (hE : Elem P t e z bytes) (hzc : z.cells = #[z]) (hCz : C z) {tx : TypeId} {ops : Array Oper} {rest : List Oper} {o : Oper} {a : Act} {Q : Exit → Act → World → Prop} (hgd : o.guard = none) (s y : Operand)
    (ho : o.op = .call { callee := .builtin .append, args := #[s, y], argTypes := #[t, tx] }) (hsv : a.eval s = v) (h : RowV w e C v xs) {x : Value} {m : Nat} {news : List Value} (hy : a.eval y = x) (hs : Src P 1 tx x m news w) (hC : ∀ u ∈ news, C u)
    (h63 : xs.length + m ≤ 4611686018427387904) (hbytes : (xs.length + m) * bytes ≤ 140737488355328)
    (hk : ∀ A' c' n' w', n' = (xs ++ news).length → RowV w' e C (.slice A' n' c') (xs ++ news) → w.grownBy w' (blkV v) → (blk A' = blkV v ∨ blk A' = some w.heap.size ∧ New w w') → wpList P ops Q rest (a.put o.dst (.slice A' n' c')) w') :
    wpList P ops Q (o :: rest) a w := by
  refine wpList_plain hgd fun K hK => ?_
  obtain ⟨v', w', hrun, h2, h3, h4, _⟩ := RowV.app (P := P) hE hzc hCz tx o.type h hs hC h63 hbytes
  obtain ⟨A', c', rfl, _⟩ := h2.shape
  unfold Oper.wp execOp
  simp only [ho, resolve, invoke, builtin, Sem.run_bind, Sem.run_pure, Result.andThen_ok, List.map_toArray, List.map_cons, List.map_nil, hsv, hy]
  rw [hrun]
  exact hK _ _ (hk A' c' _ w' rfl h2 h3 h4)
/-- Block k holds cells of the kind alone. -/
def KindB (w : World) (t : TypeId) (C : Value → Prop) (k : Nat) : Prop := ∃ cs : List Value, Blk w k t cs.toArray ∧ ∀ u ∈ cs, C u
theorem KindB.chg {S : Nat → Prop} {k : Nat} (h : KindB w t C k) (hc : Chg S w w') (hs : ¬ S k) : KindB w' t C k := by
  obtain ⟨cs, h1, h2⟩ := h
  exact ⟨cs, h1.chg hc hs, h2⟩
/-- A byte. -/
def IsU8 (u : Value) : Prop := ∃ x : UInt8, u = By x
theorem bs_u8 (l : List UInt8) : ∀ u ∈ bs l, IsU8 u := fun u hu => by
  obtain ⟨x, _, rfl⟩ := List.mem_map.1 hu
  exact ⟨x, rfl⟩
/-- An int. -/
def IsI64 (u : Value) : Prop := ∃ x : Int, u = .int .i64 x
theorem is_i64 (l : List Int) : ∀ u ∈ is l, IsI64 u := fun u hu => by
  obtain ⟨x, _, rfl⟩ := List.mem_map.1 hu
  exact ⟨x, rfl⟩
end
end Go.Mem
