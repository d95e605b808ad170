/- Logs and rows of bytes as values with colours. -/
import Derived.Test.YtffehmfjcglalaaJnCZ
import Derived.Test.YtffehmfjcglalaaDkoZ
import Derived.Test.YtffehmfjcglalaaDkhZ
import Derived.Test.YtffehmfjcglalaaDkpZ
import Derived.Test.YtffehmfjcglalaaG2
import Derived.Test.YtffehmfjcglalaaRefLists
set_option linter.unusedSimpArgs false
set_option linter.unusedVariables false
namespace Go.Proofs.Ytffehmfjcglalaa
set_option linter.unusedVariables false
open Go.RowKit Go.Mem Go.Dk Go.Pure Go.Jn Go.Col

/-- Rows of bytes in plain blocks. -/
def rowsC (ls : List (List UInt8)) : TyC := ⟨fun v w c => ∃ A cp vs, v = .slice A ls.length cp ∧ Rd w A ls.length vs ∧ ls.length ≤ cp ∧ (∀ x ∈ ls, x.length ≤ maxLen) ∧ (∀ ad, A = some ad → ad.block < w.heap.size ∧ c ad.block = 0) ∧ ∀ (k : Nat) x u, ls[k]? = some x → vs[k]? = some u → (byC x).sat u w c,
  fun ⟨A, cp, vs, h1, h2, h3, hm, h5, h6⟩ g e => ⟨A, cp, vs, h1, rd_ext0 h2 (fun ad h _ => (h5 ad h).2) e, h3, hm, fun ad h => ⟨Nat.lt_of_lt_of_le (h5 ad h).1 e.chg.size, by rw [e.col _ (h5 ad h).1, (h5 ad h).2]⟩, fun k x u hx hu => (byC x).stab (h6 k x u hx hu) g e⟩⟩
/-- A pointer to bytes in a plain block. -/
def refBC (x : List UInt8) : TyC := ⟨fun v w c => ∃ ad u, v = .pointer (some ad) ∧ w.cell? ad = some u ∧ c ad.block = 0 ∧ (byC x).sat u w c, fun {S v w c w' c'} ⟨ad, u, h1, h2, h3, h4⟩ g e => ⟨ad, u, h1, e.chg.cell h2 (by rw [h3, e.z]; simp), (e.col ad.block (cell_lt h2)).trans h3, (byC x).stab h4 g e⟩⟩
/-- Rows of bytes that own their row. -/
def rvO (n : Nat) (ls : List (List UInt8)) : TyO := ⟨[n], fun v w c => ∃ vs, RowV w 33 (fun _ => True) v vs ∧ (∀ k, blkV v = some k → c k = n) ∧ vs.length = ls.length ∧ (∀ x ∈ ls, x.length ≤ maxLen) ∧ ∀ (k : Nat) x u, ls[k]? = some x → vs[k]? = some u → (byC x).sat u w c, fun {S v w c w' c'} ⟨vs, h1, h2, h3, hm, h4⟩ gi e hn => by
  have hS : S.contains n = false := by simpa using hn
  exact ⟨vs, h1.chg e.chg (fun k hk ht => by rw [h2 k hk, hS] at ht; cases ht), fun k hk => (e.col k (h1.lt hk)).trans (h2 k hk), h3, hm, fun k x u hx hu => (byC x).stab (h4 k x u hx hu) gi e⟩⟩
/-- A log of the disk at g, or none. -/
def lgM (k g : Nat) (o : Option Lg) : TyO := ⟨[k], fun v w c => match o with
  | none => v = .pointer none
  | some l => ∃ gl, v = .pointer (some ⟨gl, 0, none⟩) ∧ Blk w gl 65 (lgCells g l) ∧ c gl = k, fun {S v w c w' c'} h gi e hn => by
  have hS : S.contains k = false := by simpa using hn
  cases o with
  | none => exact h
  | some l =>
    obtain ⟨gl, h1, h2, h3⟩ := h
    obtain ⟨q1, q2⟩ := blk_ext h2 h3 e hS
    exact ⟨gl, h1, q1, q2⟩⟩
theorem byC_blk {w : World} {c : Colr} {v : Value} {l : List UInt8} (h : (byC l).sat v w c) : ∃ A cp, v = .slice A l.length cp ∧ l.length ≤ cp ∧ Rd w A l.length (bs l) ∧ ∀ k, blk A = some k → k < w.heap.size ∧ c k = 0 := by
  obtain ⟨A, cp, rfl, h2, h3, h4⟩ := h
  refine ⟨A, cp, rfl, h3, h2, fun k hk => ?_⟩
  cases A with
  | none => cases hk
  | some ad =>
    have : ad.block = k := by simpa [blk] using hk
    subst this
    exact h4 ad rfl
theorem byC_of {w : World} {c : Colr} {A : Option Addr} {n cp : Nat} {l : List UInt8} (hl : l.length = n) (h : Rd w A n (bs l)) (hc : n ≤ cp) (hb : ∀ k, blk A = some k → k < w.heap.size ∧ c k = 0) : (byC l).sat (.slice A n cp) w c := by
  subst hl
  refine ⟨A, cp, rfl, h, hc, fun ad e => ?_⟩
  subst e
  exact hb ad.block rfl
section
variable {w : World} {c : Colr} {v u : Value} {ls ls' : List (List UInt8)} {n k g : Nat} {s : S} {l : Lg}
theorem rows_nilC : (rowsC []).sat (.slice none 0 0) w c := ⟨none, 0, [], rfl, Rd.nil _ _, Nat.le_refl _, (by simp), fun ad h => (by cases h), fun k x u hx _ => by simp at hx⟩
theorem rows_len {m : Nat} (h : (rowsC ls).sat v w c) (e : ls.length = m) : ∃ A cp, v = .slice A m cp := by
  subst e
  obtain ⟨A, cp, vs, rfl, _⟩ := h
  exact ⟨A, cp, rfl⟩
theorem rows_castv (e : ls = ls') (h : (rowsC ls).sat v w c) : (rowsC ls').sat v w c := e ▸ h
/-- Rows that read. -/
def Rr (v : Value) (w : World) (ls : List (List UInt8)) : Prop := ∃ A cp vs, v = .slice A ls.length cp ∧ Rd w A ls.length vs ∧ ListsW w vs ls
theorem rows_rr (h : (rowsC ls).sat v w c) : Rr v w ls := by
  obtain ⟨A, cp, vs, rfl, h2, h3, hm, h5, h6⟩ := h
  refine ⟨A, cp, vs, rfl, h2, h2.len, fun i v l hv hx => ?_⟩
  obtain ⟨A', cp', rfl, q2, q3, q4⟩ := byC_blk (h6 i l v hx hv)
  exact ⟨A', _, cp', rfl, hm _ (List.mem_of_getElem? hx), q3, fun k hk => (q4 k hk).1⟩
theorem rv_rr (h : (rvO n ls).sat v w c) : Rr v w ls := by
  obtain ⟨vs, h1, h2, h3, hm, h4⟩ := h
  obtain ⟨A, cp, rfl, _⟩ := h1.shape
  rw [h3] at h1 ⊢
  have hr := h1.rd
  refine ⟨A, cp, vs, rfl, hr, h3, fun i v l hv hx => ?_⟩
  obtain ⟨A', cp', rfl, q2, q3, q4⟩ := byC_blk (h4 i l v hx hv)
  exact ⟨A', _, cp', rfl, hm _ (List.mem_of_getElem? hx), q3, fun k hk => (q4 k hk).1⟩
theorem rv_nil : (rvO n []).sat (.slice none 0 0) w c := ⟨[], RowV.nil _ _ _, fun k hk => (by cases hk), rfl, (by simp), fun k x u hx _ => by simp at hx⟩
theorem rv_len {m : Nat} (h : (rvO n ls).sat v w c) (e : ls.length = m) : ∃ A cp, v = .slice A m cp := by
  subst e
  obtain ⟨A, cp, vs, rfl, _⟩ := rv_rr h
  exact ⟨A, cp, rfl⟩
theorem rr_len {m : Nat} (h : Rr v w ls) (e : ls.length = m) : ∃ A cp, v = .slice A m cp := by
  subst e
  obtain ⟨A, cp, vs, rfl, _⟩ := h
  exact ⟨A, cp, rfl⟩
theorem rows_index {i : Nat} (h : (rowsC ls).sat v w c) (h1 : i < ls.length) : ∃ p, (Instr.indexAt 27 v (.int .i64 (i : Int))).run Try.prog w = .ok p w ∧ (refBC (ls.getD i [])).sat p w c := by
  obtain ⟨A, cp, vs, rfl, h2, h3, hm, h5, h6⟩ := h
  obtain ⟨ad, u, rfl, hu, hc⟩ := h2.at_ h1
  obtain ⟨ad', e1, hr⟩ := rd_index (P := Try.prog) (kd := .i64) (cp := cp) Try.underlying27 (by kernel_rfl) h2 h1
  injection e1 with e1
  subst e1
  exact ⟨_, hr, _, u, rfl, hc, by rw [add_block]; exact (h5 ad rfl).2, h6 i _ u (by simp [List.getD, List.getElem?_eq_getElem h1]) hu⟩
theorem refBC_load {x : List UInt8} (h : (refBC x).sat v w c) : ∃ ad u, v = .pointer (some ad) ∧ (loadVar 33 ad).run Try.prog w = .ok u w ∧ (byC x).sat u w c := by
  obtain ⟨ad, u, rfl, hc, _, h4⟩ := h
  refine ⟨ad, u, rfl, ?_, h4⟩
  obtain ⟨d, hu, hd⟩ := flatBs
  cases d <;> simp_all [loadVar, isAgg, run_underlying hu]
theorem rows_take {A : Option Addr} {m cp q : Nat} (h : (rowsC ls).sat (.slice A m cp) w c) (hk : q ≤ ls.length) : (rowsC (ls.take q)).sat (.slice A q cp) w c := by
  obtain ⟨A', cp', vs, hv, h2, hcp, hm, h3, h4⟩ := h
  injection hv with hA hn hc
  subst hA hn hc
  have hl : (ls.take q).length = q := by rw [List.length_take]; omega
  refine ⟨A, cp, vs.take q, by rw [hl], by rw [hl]; exact h2.take hk, by omega, fun x hx => hm x (List.mem_of_mem_take hx), h3, fun k x u hx hu => ?_⟩
  rw [List.getElem?_take] at hx hu
  split at hx
  · rename_i hlt
    rw [if_pos hlt] at hu
    exact h4 k x u hx hu
  · cases hx
/-- Rows that a call gives back. -/
theorem rows_of {w' : World} {T : Nat → Prop} {A : Option Addr} {nl cl : Nat} {vs : List Value} {B : Nat} (h : RowsJ w' B T A nl cl vs ls) (hc : ∀ k, B ≤ k → k < w'.heap.size → ¬ T k → c k = 0) : (rowsC ls).sat (.slice A nl cl) w' c := by
  have hr := Rd.of_own h.own
  have hl := hr.len
  rw [h.rows.1] at hl
  subst hl
  refine ⟨A, cl, vs, rfl, hr, (own_cap h.own).1, fun x hx => ?_, fun ad e => ?_, fun k x u hx hu => ?_⟩
  · obtain ⟨i, hi, he⟩ := List.mem_iff_getElem.1 hx
    obtain ⟨A', n', c', _, q1, q2, q3, _⟩ := h.rows.2 i (vs[i]'(by rw [h.rows.1]; exact hi)) x (List.getElem?_eq_getElem _) (by rw [List.getElem?_eq_getElem hi, he])
    have hl' : x.length = n' := by have := q3.len; simpa using this
    omega
  · subst e
    obtain ⟨q1, q2⟩ := h.blt.1 ad.block rfl
    exact ⟨q2, hc _ q1 q2 (h.apart.1 _ rfl)⟩
  · obtain ⟨A', n', c', rfl, q1, q2, q3, q4⟩ := h.rows.2 k u x hu hx
    have hm := List.mem_of_getElem? hu
    have hl' : x.length = n' := by have := q3.len; simpa using this
    exact byC_of hl' q3 q1 (fun k hk => ⟨q4 k hk, hc k (h.up _ hm _ _ _ rfl k hk) (q4 k hk) (h.apart.2 _ hm _ _ _ rfl k hk)⟩)
theorem lg_ptr (h : (lgM k g (some l)).sat v w c) : ∃ gl, v = .pointer (some ⟨gl, 0, none⟩) := by
  obtain ⟨gl, rfl, _⟩ := h
  exact ⟨gl, rfl⟩
theorem lg_castv {o o' : Option Lg} (e : o = o') (h : (lgM k g o).sat v w c) : (lgM k g o').sat v w c := e ▸ h

/-! ### contracts -/
theorem k_recs {l : List Int} (h : (isP l).sat v w c) (hr : ∀ z ∈ l, -9223372036854775808 ≤ z ∧ z ≤ 9223372036854775807) : CV Try.prog 11 #[v] w c (rowsC (recsOf l)) := by
  obtain ⟨A, cp, rfl, h1, h2, h3, _⟩ := h
  refine CV.of_newc (R := fun u w' => ∃ A' m c' vs, u = .slice A' m c' ∧ w'.ownsRow w.heap.size 33 1 (.slice A' m c') m vs ∧ OLists w' w.heap.size 5 vs (recsOf l)) ((records_spec A l.length cp l w h1 (by omega) hr).mono ?_) ?_
  · rintro e w' ⟨A', m, c', vs, rfl, h5, h6, h7⟩
    exact ⟨_, rfl, ⟨A', m, c', vs, rfl, h5, h6⟩, h7⟩
  · rintro u w' hN ⟨A', m, c', vs, rfl, h5, h6⟩
    have hr := Rd.of_own h5
    have hl := hr.len
    rw [h6.1] at hl
    subst hl
    refine ⟨A', c', vs, rfl, hr, (own_cap h5).1, fun x hx => ?_, fun ad e => ?_, fun k x u hx hu => ?_⟩
    · obtain ⟨z, _, rfl⟩ := List.mem_map.1 hx
      have := recOf_len z
      unfold maxLen
      omega
    · subst e
      obtain ⟨q1, q2⟩ := own_blk_le h5 (k := ad.block) rfl
      exact ⟨q2, by simp only [ext0]; rw [if_neg (by omega)]⟩
    · obtain ⟨A2, n2, c2, rfl, q1⟩ := h6.2 k u x hu hx
      have hr2 := Rd.of_own q1
      have hl2 : x.length = n2 := by have := hr2.len; simpa using this
      exact byC_of hl2 hr2 (own_cap q1).1 (fun k hk => ⟨(own_blk_le q1 hk).2, by have := (own_blk_le q1 hk).1; simp only [ext0]; rw [if_neg (by omega)]⟩)
theorem k_samel {v' : Value} (h : Rr v w ls) (h' : Rr v' w ls') (hl : ls.length ≤ 1000000000) (hl' : ls'.length ≤ 1000000000) : CV Try.prog 17 #[v, v'] w c (TyC.eq (.bool (decide (ls = ls')))) := by
  obtain ⟨A, cp, vs, rfl, h1, h2⟩ := h
  obtain ⟨A', cp', vs', rfl, h3, h4⟩ := h'
  refine CV.of_newc (R := fun u _ => u = .bool (decide (ls = ls'))) ((sameLists_w A A' _ _ cp cp' vs vs' ls ls' w h1 h2 h3 h4 (by omega) (by omega)).mono ?_) (fun u w' _ h => h)
  rintro e w' ⟨rfl, q, rfl⟩
  exact ⟨_, rfl, rfl, Chg.drewN (Chg.refl _ _) _⟩
theorem k_samel_t {v' : Value} (h : Rr v w ls) (h' : Rr v' w ls') (hl : ls.length ≤ 1000000000) (e : ls = ls') : CV Try.prog 17 #[v, v'] w c (TyC.eq (.bool true)) := by
  have := k_samel (c := c) h h' hl (by rw [← e]; exact hl)
  rwa [decide_eq_true e] at this
theorem k_frame {b : List UInt8} {num : Nat} (hn : num ≤ 1000000000) (h : (byC b).sat u w c) (hb : b.length ≤ 100000000) : CV Try.prog 13 #[.int .i64 (num : Int), u] w c (byC (frameP (num : Int) b)) := by
  obtain ⟨A, cp, rfl, h1, h2, h3⟩ := byC_blk h
  refine CV.of_newc (R := fun x w' => ∃ A' c', x = .slice A' (frameP (num : Int) b).length c' ∧ w'.ownsRow w.heap.size 5 1 (.slice A' (frameP (num : Int) b).length c') (frameP (num : Int) b).length (bs (frameP (num : Int) b))) ((frame_any num A b.length cp b w (by omega) (by omega) h2 hb (fun k hk => (h3 k hk).1)).mono ?_) ?_
  · rintro e w' ⟨A', c', rfl, h5, h6⟩
    exact ⟨_, rfl, ⟨A', c', rfl, h5⟩, h6⟩
  · rintro x w' hN ⟨A', c', rfl, h5⟩
    exact byC_of rfl (Rd.of_own h5) (own_cap h5).1 (fun k hk => ⟨(own_blk_le h5 hk).2, by have := (own_blk_le h5 hk).1; simp only [ext0]; rw [if_neg (by omega)]⟩)
theorem k_jlen (h : (lgM k g (some l)).sat v w c) : CV Try.prog 15 #[v] w c (TyC.eq (.int .i64 (l.size : Int))) := by
  obtain ⟨gl, rfl, h1, _⟩ := h
  refine CV.of_newc (R := fun u _ => u = .int .i64 (l.size : Int)) ((jLen_any g gl l w h1).mono ?_) (fun u w' _ h => h)
  rintro e w' ⟨rfl, rfl⟩
  exact ⟨_, rfl, rfl, Chg.refl _ _⟩
theorem k_jup (h : (lgM k g (some l)).sat v w c) : CV Try.prog 16 #[v] w c (TyC.eq (.bool (!l.down))) := by
  obtain ⟨gl, rfl, h1, _⟩ := h
  refine CV.of_newc (R := fun u _ => u = .bool (!l.down)) ((jUp_any g gl l w h1).mono ?_) (fun u w' _ h => h)
  rintro e w' ⟨rfl, rfl⟩
  exact ⟨_, rfl, rfl, Chg.refl _ _⟩
theorem k_jopen_nil {file : Int} : CV Try.prog 10 #[.pointer none, .int .i64 file] w c (TyC.eq (.tuple #[.pointer none, .slice none 0 0, .int .i64 1])) := by
  refine CV.of_newc (R := fun u _ => u = .tuple #[.pointer none, .slice none 0 0, .int .i64 1]) ((jOpen_nil w file).mono ?_) (fun u w' _ h => h)
  rintro e w' ⟨rfl, hN⟩
  exact ⟨_, rfl, rfl, hN⟩
/-- The log that Open gives back. -/
def lgOf (file : Int) (r : S × Int × List (List UInt8)) : Option Lg := if r.2.1 = 0 then some ⟨file, r.2.2.length, false⟩ else none
/-- The colours behind a call that changes a disk and makes or changes a log. -/
noncomputable def colJ (c : Colr) (m n k gl : Nat) (T : Nat → Prop) : Colr := fun j => if j < m then c j else if @decide (T j) (Classical.propDecidable _) = true then n else if j = gl then k else 0
theorem k_jopen {file : Int} (hn : ([k, n].contains 0 || [k, n].contains 1) = false) (h : (dkO n s).sat (.pointer (some ⟨g, 0, none⟩)) w c) {s' : S} {cd : Int} {L : List (List UInt8)} {o : Option Lg} (e : openJ s file = (s', cd, L)) (eo : lgOf file (s', cd, L) = o) :
    CE Try.prog 10 #[.pointer (some ⟨g, 0, none⟩), .int .i64 file] w c [k, n] (fun u w' c' => (tupO [lgM k g o, TyO.of (rowsC L), TyO.of (TyC.eq (.int .i64 cd))]).sat u w' c' ∧ FP [Fact.own (dkO n s') (.pointer (some ⟨g, 0, none⟩))] w' c') := by
  intro hg
  obtain ⟨g', m, V, hv, h1, h2⟩ := h
  injection hv with hv
  injection hv with hv
  injection hv with hv
  subst hv
  refine (jOpen_any g m V s w h1 file).mono ?_
  rintro x w' ⟨p, A, nl, cl, vs, V', rfl, h3, h4, h5⟩
  rw [e] at h3 h5 ⊢
  dsimp only at h3 h5 ⊢
  subst eo
  have old : ∀ gl, ∀ j, j < w.heap.size → colJ c w.heap.size n k gl (ownD g m V') j = c j := fun gl j hj => if_pos hj
  have own : ∀ gl, ∀ j, ownD g m V' j → colJ c w.heap.size n k gl (ownD g m V') j = n := fun gl j hj => by
    unfold colJ
    split
    · rename_i hlt
      rcases h4.own j hj with h6 | h6
      · exact h2 j h6
      · omega
    · rw [if_pos (by simpa using hj)]
  have ext : ∀ gl, Ext [k, n] w c w' (colJ c w.heap.size n k gl (ownD g m V')) := fun gl => Ext.of_gen hg hn h4.chg (fun j hj _ => by rw [h2 j hj]; simp) (old gl) (fun j hj _ => by
    unfold colJ
    rw [if_neg (by omega)]
    split
    · exact .inr (by simp)
    · split
      · exact .inr (by simp)
      · exact .inl rfl) (fun j hj cs t x hb v hv => nb_no v)
  rcases h5 with ⟨h0, gl, rfl, h6, h7, h8, h9⟩ | ⟨h0, rfl, h9⟩
  · refine ⟨_, colJ c w.heap.size n k gl (ownD g m V'), rfl, ⟨tupO_three (σ := lgM k g (lgOf file (s', cd, L))) (τ := TyO.of (rowsC L)) (υ := TyO.of (TyC.eq (.int .i64 cd))) ?_ ?_ rfl, ⟨g, m, V', rfl, h3, own gl⟩, trivial⟩, ext gl⟩
    · show (lgM k g (if cd = 0 then some ⟨file, L.length, false⟩ else none)).sat _ _ _
      rw [if_pos h0]
      refine ⟨gl, rfl, h8, ?_⟩
      unfold colJ
      rw [if_neg (by omega), if_neg (by simpa using h7), if_pos rfl]
    · refine rows_of h9 (fun j hB hj hT => ?_)
      unfold colJ
      rw [if_neg (by omega), if_neg (by simpa using fun h => hT (.inl h)), if_neg (fun h => hT (.inr h))]
  · refine ⟨_, colJ c w.heap.size n k w'.heap.size (ownD g m V'), rfl, ⟨tupO_three (σ := lgM k g (lgOf file (s', cd, L))) (τ := TyO.of (rowsC L)) (υ := TyO.of (TyC.eq (.int .i64 cd))) ?_ ?_ rfl, ⟨g, m, V', rfl, h3, own _⟩, trivial⟩, ext _⟩
    · show (lgM k g (if cd = 0 then some ⟨file, L.length, false⟩ else none)).sat _ _ _
      rw [if_neg h0]
      rfl
    · refine rows_of h9 (fun j hB hj hT => ?_)
      unfold colJ
      rw [if_neg (by omega), if_neg (by simpa using hT), if_neg (by omega)]
theorem k_jappend0 {b : List UInt8} (hn : ([k, n].contains 0 || [k, n].contains 1) = false) (hkn : (k == n) = false) (h : (lgM k g (some l)).sat v w c) (hd : (dkO n s).sat (.pointer (some ⟨g, 0, none⟩)) w c) (hb : Rb u w b) (hs : l.size ≤ 1000000000) {s' : S} {l' : Lg} {cd : Int} (e : appJ s l b = (s', l', cd)) (hl : b.length ≤ 100000000) :
    CE Try.prog 14 #[v, u] w c [k, n] (fun x w' c' => x = .int .i64 cd ∧ (lgM k g (some l')).sat v w' c' ∧ (dkO n s').sat (.pointer (some ⟨g, 0, none⟩)) w' c') := by
  intro hg
  obtain ⟨gl, rfl, h1, h2⟩ := h
  obtain ⟨g', m, V, hv, h3, h4⟩ := hd
  injection hv with hv
  injection hv with hv
  injection hv with hv
  subst hv
  obtain ⟨A, cp, rfl, h5, h6⟩ := hb
  have hno : ¬ ownD g m V gl := fun ho => by
    have := h4 gl ho
    rw [h2] at this
    subst this
    simp at hkn
  refine (jAppend_any g m V s gl l w h3 h1 hno A b.length cp b h5 h6 hl hs).mono ?_
  rintro x w' ⟨rfl, V', q1, q2, q4, q5⟩
  rw [e] at q1 q2 ⊢
  dsimp only at q1 q2 ⊢
  refine ⟨_, extO c w.heap.size n (fun j => @decide (ownD g m V' j) (Classical.propDecidable _)), rfl, ⟨rfl, ⟨gl, rfl, q2, ?_⟩, ⟨g, m, V', rfl, q1, fun j hj => ?_⟩⟩, Ext.of_gen hg hn q4 (fun j hj _ => ?_) (fun j hj => extO_old hj) (fun j hj _ => ?_) (fun j hj cs t x hb v hv => nb_no v)⟩
  · rw [extO_old h1.lt, h2]
  · by_cases hlt : j < w.heap.size
    · rw [extO_old hlt]
      rcases q5 j hj with h7 | h7
      · exact h4 j h7
      · omega
    · exact extO_own (by omega) (by simpa using hj)
  · rcases hj with hj | hj
    · rw [h4 j hj]; simp
    · rw [hj, h2]; simp
  · unfold extO
    rw [if_neg (by omega)]
    split
    · exact .inr (by simp)
    · exact .inl rfl
/-- The log's fact ahead of the disk's. -/
theorem k_jappendL {b : List UInt8} (hn : ([k, n].contains 0 || [k, n].contains 1) = false) (hkn : (k == n) = false) (h : (lgM k g (some l)).sat v w c) (hd : (dkO n s).sat (.pointer (some ⟨g, 0, none⟩)) w c) (hb : Rb u w b) (hs : l.size ≤ 1000000000) {s' : S} {l' : Lg} {cd : Int} (e : appJ s l b = (s', l', cd)) (hl : b.length ≤ 100000000) :
    CE Try.prog 14 #[v, u] w c [k, n] (fun x w' c' => (TyC.eq (.int .i64 cd)).sat x w' c' ∧ FP [Fact.own (lgM k g (some l')) v, Fact.own (dkO n s') (.pointer (some ⟨g, 0, none⟩))] w' c') := fun hg =>
  (k_jappend0 hn hkn h hd hb hs e hl hg).mono fun x w' ⟨y, c', q1, q2, q3⟩ => ⟨y, c', q1, ⟨q2.1, q2.2.1, q2.2.2, trivial⟩, q3⟩
/-- The disk's fact ahead of the log's. -/
theorem k_jappendD {b : List UInt8} (hn : ([k, n].contains 0 || [k, n].contains 1) = false) (hkn : (k == n) = false) (h : (lgM k g (some l)).sat v w c) (hd : (dkO n s).sat (.pointer (some ⟨g, 0, none⟩)) w c) (hb : Rb u w b) (hs : l.size ≤ 1000000000) {s' : S} {l' : Lg} {cd : Int} (e : appJ s l b = (s', l', cd)) (hl : b.length ≤ 100000000) :
    CE Try.prog 14 #[v, u] w c [k, n] (fun x w' c' => (TyC.eq (.int .i64 cd)).sat x w' c' ∧ FP [Fact.own (dkO n s') (.pointer (some ⟨g, 0, none⟩)), Fact.own (lgM k g (some l')) v] w' c') := fun hg =>
  (k_jappend0 hn hkn h hd hb hs e hl hg).mono fun x w' ⟨y, c', q1, q2, q3⟩ => ⟨y, c', q1, ⟨q2.1, q2.2.2, q2.2.1, trivial⟩, q3⟩
end
end Go.Proofs.Ytffehmfjcglalaa
