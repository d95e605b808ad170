/- Rows of several cells: append, cuts. Contract of refuterref36.Add. -/
import Derived.Test.YtbmplfhcdkeooaaRpDZ
set_option linter.unusedSimpArgs false
set_option linter.unusedVariables false
namespace Go.Mem
set_option linter.unusedVariables false
open Go.RowKit
/-- The slice type t has the element type e of sz cells and that many bytes. -/
def ElemN (P : Program) (t e : TypeId) (sz bytes : Nat) : Prop := P.underlying t = some (.slice e) ∧ (∃ i z, P.info? e = some i ∧ i.zero = some z ∧ i.size = sz ∧ i.bytes = bytes ∧ z.cells.size = sz) ∧ 0 < sz
/-- A slice whose n elements of sz cells are xs. -/
def RdN (w : World) (A : Option Addr) (sz n : Nat) (xs : List Value) : Prop := xs.length = n * sz ∧ (0 < n → ∃ ad, A = some ad ∧ ∀ j u, xs[j]? = some u → w.cell? (ad.add j) = some u)
section
variable {P : Program} {w w' : World} {base : Nat} {t e : TypeId} {sz bytes : Nat}
theorem RdN.of_own {A : Option Addr} {n c : Nat} {xs : List Value} (hsz : 0 < sz) (h : w.ownsRow base e sz (.slice A n c) n xs) : RdN w A sz n xs := by
  refine ⟨h.1, fun hn => ?_⟩
  have hx : 0 < xs.length := by rw [h.1]; exact Nat.mul_pos hn hsz
  obtain ⟨g, rfl, _⟩ := ownN_cell h (List.getElem?_eq_getElem hx)
  refine ⟨_, rfl, fun j u hu => ?_⟩
  obtain ⟨g', e1, hc, _⟩ := ownN_cell h hu
  injection e1 with e1
  injection e1 with e1
  subst e1
  rw [Addr.add_lit, Nat.zero_add]
  exact hc
theorem RdN.new {A : Option Addr} {n : Nat} {xs : List Value} (h : RdN w A sz n xs) (hn : New w w') : RdN w' A sz n xs := ⟨h.1, fun h0 => by
  obtain ⟨ad, e, hc⟩ := h.2 h0
  exact ⟨ad, e, fun j u hu => hn.cell (hc j u hu) (fun h => h)⟩⟩
theorem RdN.take {A : Option Addr} {n k : Nat} {xs : List Value} (h : RdN w A sz n xs) (hk : k ≤ n) : RdN w A sz k (xs.take (k * sz)) := by
  have hle : k * sz ≤ n * sz := Nat.mul_le_mul_right _ hk
  refine ⟨by rw [List.length_take, h.1]; omega, fun h0 => ?_⟩
  obtain ⟨ad, rfl, hc⟩ := h.2 (by omega)
  refine ⟨ad, rfl, fun j u hu => hc j u ?_⟩
  rw [List.getElem?_take] at hu
  split at hu
  · exact hu
  · cases hu
theorem RdN.cut {A : Option Addr} {n k cap : Nat} {xs : List Value} (h : RdN w A sz n xs) (hk : k ≤ n) (hc : n ≤ cap) : RdN w (if cap = k then A else A.map (·.add (k * sz))) sz (n - k) (xs.drop (k * sz)) := by
  refine ⟨by rw [List.length_drop, h.1, Nat.sub_mul], fun h0 => ?_⟩
  rw [if_neg (by omega)]
  obtain ⟨ad, rfl, hcell⟩ := h.2 (by omega)
  refine ⟨_, rfl, fun j u hu => ?_⟩
  rw [add_add']
  exact hcell _ u (by rw [← hu, List.getElem?_drop])
theorem run_uptoN (hE : ElemN P t e sz bytes) (kl : IntKind) (A : Option Addr) (n c k : Nat) (i : Int) (hi : i = (k : Int)) (hk : k ≤ c) (W : World) : (Instr.slice t (.slice A n c) none (some (.int kl i)) none).run P W = .ok (.slice A k c) W := by
  obtain ⟨ht, ⟨info, z, hi1, hi2, hi3, _⟩, _⟩ := hE
  have hel : P.elem t = e := by simp [Program.elem, ht]
  subst hi
  have := run_slice_h (P := P) W t A n c (by rw [hel]; exact ht) kl (k : Int) (by omega) (by omega)
  rw [this, hel]
  have e1 : A.map (fun x : Addr => x.add 0) = A := by cases A <;> simp [Addr.add]
  simp [sizeOf, typeInfo, hi1, hi3, sliced, e1]
theorem run_cutN (hE : ElemN P t e sz bytes) (kl : IntKind) (A : Option Addr) (n c k : Nat) (i : Int) (hi : i = (k : Int)) (hk : k ≤ n) (W : World) : (Instr.slice t (.slice A n c) (some (.int kl i)) none none).run P W = .ok (.slice (if c = k then A else A.map (·.add (k * sz))) (n - k) (c - k)) W := by
  obtain ⟨ht, ⟨info, z, hi1, hi2, hi3, _⟩, _⟩ := hE
  have hel : P.elem t = e := by simp [Program.elem, ht]
  subst hi
  have := run_slice_l (P := P) W t A n c (by rw [hel]; exact ht) kl (k : Int) (by omega) (by omega)
  rw [this, hel]
  simp [sizeOf, typeInfo, hi1, hi3, sliced]
/-- append, whatever the source. -/
theorem run_appN (hE : ElemN P t e sz bytes) (ty : TypeId) {v : Value} {n : Nat} {xs : List Value} (hown : w.ownsRow base e sz v n xs) {A : Option Addr} {m c : Nat} {news : List Value} (hr : RdN w A sz m news) (h1 : ∀ u ∈ news, u.oneCell' = true)
    (h63 : n + m ≤ maxLen) (hbytes : (n + m) * bytes ≤ 140737488355328) (hbase : base ≤ w.heap.size) :
    ∃ v' w', (Builtin.append_ #[t, t] ty #[v, .slice A m c]).run P w = .ok v' w' ∧ w'.ownsRow base e sz v' (n + m) (xs ++ news) ∧ w.grownBy w' v.ownBlock ∧ (v'.ownBlock = v.ownBlock ∨ v'.ownBlock = some w.heap.size) := by
  obtain ⟨ht, ⟨i, z, hi, hz, hsize, hby, hzs⟩, hsz⟩ := hE
  rcases A with _ | ad
  · have hm : m = 0 := by
      rcases Nat.eq_zero_or_pos m with h0 | h0
      · exact h0
      · obtain ⟨ad, h, _⟩ := hr.2 h0
        cases h
    subst hm
    have hn : news = [] := List.eq_nil_of_length_eq_zero (by have := hr.1; omega)
    subst hn
    refine ⟨v, w, ?_, by simpa using hown, World.grownBy.refl w _, .inl rfl⟩
    rcases hown.2 with ⟨rfl, rfl⟩ | ⟨g, cap, cur, rfl, _, _, hnc, _⟩
    · simp [Builtin.append_, run_underlying ht, sizeOf, typeInfo, hi, Builtin.lenOf, Builtin.firstCells]
    · simp [Builtin.append_, run_underlying ht, sizeOf, typeInfo, hi, Builtin.lenOf, Builtin.firstCells, hnc, storeCells]
  · have hcells : ∀ j u, news[j]? = some u → w.cell? (ad.add j) = some u := by
      intro j u hu
      rcases Nat.eq_zero_or_pos m with h0 | h0
      · subst h0
        have hn : news = [] := List.eq_nil_of_length_eq_zero (by have := hr.1; omega)
        subst hn
        simp at hu
      · obtain ⟨ad', h, hc⟩ := hr.2 h0
        injection h with h
        subst h
        exact hc j u hu
    obtain ⟨v', w', hrun, h2, h3, _, h5⟩ := run_append_own_at (P := P) w base t ty e i z sz bytes ht hi hz hsize hby hzs hsz v n xs hown ad m c news hr.1 hcells h1 h63 hbytes hbase
    exact ⟨v', w', hrun, h2, h3, h5⟩
theorem ElemN.mk' (ht : P.underlying t = some (.slice e)) (hi : (P.info? e).map (fun i => (i.zero.map (fun z => z.cells.size), i.size, i.bytes)) = some (some sz, sz, bytes)) (h0 : 0 < sz) : ElemN P t e sz bytes := by
  cases hp : P.info? e with
  | none => rw [hp] at hi; cases hi
  | some i =>
    rw [hp] at hi
    cases hz : i.zero with
    | none => simp [hz] at hi
    | some z =>
      simp [hz] at hi
      exact ⟨ht, ⟨i, z, hp ▸ rfl, hz, hi.2.1, hi.2.2, hi.1⟩, h0⟩
end
end Go.Mem
namespace Go.Proofs.Ytbmplfhcdkeooaa
set_option linter.unusedVariables false
open Go.RowKit Go.Mem Go.Pl
theorem elemJobs : ElemN Try.prog 101 107 7 88 := ElemN.mk' Try.underlying101 (by kernel_rfl) (by omega)
theorem elemTries : ElemN Try.prog 102 109 5 40 := ElemN.mk' Try.underlying102 (by kernel_rfl) (by omega)
theorem insJ_at {x : Job} {l : List Job} {k : Nat} (h1 : ∀ (i : Nat) j, i < k → l[i]? = some j → j.id < x.id) (h2 : ∀ j, l[k]? = some j → ¬ j.id < x.id) (hk : k ≤ l.length) : insJ x l = l.take k ++ x :: l.drop k := by
  induction l generalizing k with
  | nil => simp at hk; subst hk; rfl
  | cons y r ih =>
    cases k with
    | zero =>
      unfold insJ
      rw [if_neg (h2 y rfl)]
      rfl
    | succ k =>
      unfold insJ
      rw [if_pos (h1 0 y (by omega) rfl), ih (k := k) (fun i j hi hj => h1 (i + 1) j (by omega) (by simpa using hj)) (fun j hj => h2 j (by simpa using hj)) (by simpa using hk)]
      rfl
theorem flat_take {n : Nat} {css : List (List Value)} (hl : ∀ y ∈ css, y.length = n) (k : Nat) : css.flatten.take (k * n) = (css.take k).flatten := by
  induction css generalizing k with
  | nil => simp
  | cons y r ih =>
    have hy := hl y (by simp)
    cases k with
    | zero => simp
    | succ k => rw [List.take_succ_cons, List.flatten_cons, List.flatten_cons, Nat.succ_mul, ← ih (fun z hz => hl z (by simp [hz])), List.take_append, hy, List.take_of_length_le (by omega), show k * n + n - n = k * n by omega]
theorem flat_drop {n : Nat} {css : List (List Value)} (hl : ∀ y ∈ css, y.length = n) (k : Nat) : css.flatten.drop (k * n) = (css.drop k).flatten := by
  induction css generalizing k with
  | nil => simp
  | cons y r ih =>
    have hy := hl y (by simp)
    cases k with
    | zero => simp
    | succ k => rw [List.drop_succ_cons, List.flatten_cons, Nat.succ_mul, ← ih (fun z hz => hl z (by simp [hz])), List.drop_append, hy, List.drop_of_length_le (by omega), show k * n + n - n = k * n by omega, List.nil_append]
section
variable {w w' : World} {h : Nat} {al jv tv : Value} {T U : Nat → Prop} {s : S}
theorem jobR_len (j : Job) (bv av : Value) : (jobR j bv av).length = 7 := rfl
theorem flat_one {css : List (List Value)} (h : ∀ y ∈ css, ∀ u ∈ y, u.oneCell' = true) : ∀ u ∈ css.flatten, u.oneCell' = true := fun u hu => by
  obtain ⟨y, hy, hu⟩ := List.mem_flatten.1 hu
  exact h y hy u hu
theorem ByT.one {v : Value} {l : List UInt8} (h : ByT w T v l) : v.oneCell' = true := by
  obtain ⟨A, c, rfl, _⟩ := h
  rfl
/-- The rows of the tasks, with what they are. -/
theorem JobsV.open {js : List Job} (hj : JobsV w T jv js) : ∃ css : List (List Value), w.ownsRow 0 107 7 jv js.length css.flatten ∧ css.length = js.length ∧ (∀ y ∈ css, y.length = 7) ∧ (∀ y ∈ css, ∀ u ∈ y, u.oneCell' = true) ∧ ∀ (i : Nat) j, js[i]? = some j → ∃ bv av, css[i]? = some (jobR j bv av) ∧ ByT w T bv j.body ∧ ByT w T av (ansB j) := by
  obtain ⟨css, h1, h2, h3⟩ := hj
  refine ⟨css, h2 ▸ h1.1, h2, h1.2, fun y hy u hu => ?_, h3⟩
  obtain ⟨i, hi⟩ := List.getElem?_of_mem hy
  have hil := (List.getElem?_eq_some_iff.1 hi).1
  obtain ⟨j, hj⟩ : ∃ j, js[i]? = some j := ⟨_, List.getElem?_eq_getElem (by omega)⟩
  obtain ⟨bv, av, q1, q2, q3⟩ := h3 i j hj
  rw [hi] at q1
  injection q1 with q1
  subst q1
  simp only [jobR, List.mem_cons, List.not_mem_nil, or_false] at hu
  rcases hu with rfl | rfl | rfl | rfl | rfl | rfl | rfl
  · rfl
  · exact q2.one
  · rfl
  · rfl
  · rfl
  · rfl
  · exact q3.one
/-- What Add leaves. -/
def RAdd (w w' : World) (h : Nat) (al jv tv : Value) (T : Nat → Prop) (s' : S) : Prop := ∃ jv', RI w' h al jv' tv T s' ∧ Chg (fun k => k = h) w w' ∧ ∀ k, jv'.ownBlock = some k → jv.ownBlock = some k ∨ w.heap.size ≤ k
theorem RAdd.same (hr : RI w h al jv tv T s) : RAdd w w h al jv tv T s := ⟨jv, hr, Chg.refl _ _, fun k hk => .inl hk⟩
theorem add_fin {wr w6 : World} {id : Int} {body : List UInt8} {B : Option Addr} {nb cb k m : Nat} {v6 : Value} {css : List (List Value)} {xs : List Value} (hr : RI wr h al jv tv T s) (hcl : css.length = s.jobs.length) (h7 : ∀ y ∈ css, y.length = 7) (hjb : ∀ (i : Nat) j, s.jobs[i]? = some j → ∃ bv av, css[i]? = some (jobR j bv av) ∧ ByT wr T bv j.body ∧ ByT wr T av (ansB j))
    (hlo : ∀ (i : Nat) j, i < k → s.jobs[i]? = some j → j.id < id) (hst : ∀ j, s.jobs[k]? = some j → ¬ j.id < id) (hk : k ≤ s.jobs.length) (n6 : New wr w6) (hm : m = s.jobs.length + 1) (hxs : xs = (css.take k).flatten ++ jobR ⟨id, body, 0, none⟩ (.slice B nb cb) (.slice none 0 0) ++ (css.drop k).flatten) (o6 : w6.ownsRow wr.heap.size 107 7 v6 m xs) (hB : ByT wr T (.slice B nb cb) body) :
    RAdd wr (w6.setCell ⟨h, 3, none⟩ v6) h al jv tv T { s with jobs := insJ ⟨id, body, 0, none⟩ s.jobs } := by
  subst hm hxs
  have hri6 := hr.new n6
  have hbh6 := hri6.blk
  have hv6b : ∀ q, v6.ownBlock = some q → wr.heap.size ≤ q := fun q hq => (ownN_lt o6 hq).1
  have hvh : v6.ownBlock ≠ some h := fun e => by have := hv6b _ e; have := hr.blk.lt; omega
  have hc : Chg (fun q => q = h) w6 (w6.setCell ⟨h, 3, none⟩ v6) := chg_one w6 h 3 v6
  have hins := insJ_at (x := ⟨id, body, 0, none⟩) (l := s.jobs) (k := k) hlo hst hk
  have hlen : (insJ ⟨id, body, 0, none⟩ s.jobs).length = s.jobs.length + 1 := by rw [insJ_len]
  obtain ⟨⟨n1', n2', n3'⟩, _, _⟩ := hri6.ne
  refine ⟨v6, ⟨?_, ownN_chg hri6.alive hc (fun q hq e => n1' (e ▸ hq)), ?_, ownN_chg hri6.tries hc (fun q hq e => n3' (e ▸ hq)), fun q hq => ?_⟩, (n6.mono (T := fun q => q = h) (fun _ _ h => h.elim)).setCell (p := ⟨h, 3, none⟩) (fun _ => rfl) v6, fun q hq => .inr (hv6b q hq)⟩
  · have := hbh6.set_ 3 v6
    exact this
  · refine ⟨css.take k ++ [jobR ⟨id, body, 0, none⟩ (.slice B nb cb) (.slice none 0 0)] ++ css.drop k, ⟨?_, fun y hy => ?_⟩, ?_, fun i j hj => ?_⟩
    · have e : (css.take k ++ [jobR ⟨id, body, 0, none⟩ (.slice B nb cb) (.slice none 0 0)] ++ css.drop k).length = s.jobs.length + 1 := by simp only [List.length_append, List.length_take, List.length_drop, List.length_singleton]; omega
      rw [e]
      have := ownN_chg o6 hc (fun q hq e => hvh (e ▸ hq))
      simpa using ownN_base this (Nat.zero_le _)
    · simp only [List.mem_append, List.mem_singleton] at hy
      rcases hy with (hy | rfl) | hy
      · exact h7 y (List.mem_of_mem_take hy)
      · rfl
      · exact h7 y (List.mem_of_mem_drop hy)
    · show _ = (insJ _ s.jobs).length
      rw [hlen]
      simp only [List.length_append, List.length_take, List.length_drop, List.length_singleton]
      omega
    · have hj : (insJ ⟨id, body, 0, none⟩ s.jobs)[i]? = some j := hj
      rw [hins] at hj
      have hT : ∀ q, T q → ¬ q = h := fun q hq e => (hri6.sep q hq).2 (.inl e)
      have hup : ∀ {bv : Value} {l : List UInt8}, ByT wr T bv l → ByT (w6.setCell ⟨h, 3, none⟩ v6) T bv l := fun hb => (hb.chg n6 (fun _ _ h => h)).chg hc hT
      rcases Nat.lt_trichotomy i k with hlt | heq | hgt
      · rw [List.getElem?_append_left (by simp; omega), List.getElem?_take, if_pos hlt] at hj
        obtain ⟨bv, av, r1, r2, r3⟩ := hjb i j hj
        refine ⟨bv, av, ?_, hup r2, hup r3⟩
        rw [List.append_assoc, List.getElem?_append_left (by simp; omega), List.getElem?_take, if_pos hlt]
        exact r1
      · subst heq
        rw [List.getElem?_append_right (by simp; omega)] at hj
        have hz : i - (s.jobs.take i).length = 0 := by rw [List.length_take]; omega
        rw [hz] at hj
        injection hj with hj
        subst hj
        refine ⟨.slice B nb cb, .slice none 0 0, ?_, hup hB, ByT.nil _ _⟩
        rw [List.append_assoc, List.getElem?_append_right (by simp; omega)]
        have hz2 : i - (css.take i).length = 0 := by rw [List.length_take]; omega
        rw [hz2]
        rfl
      · rw [List.getElem?_append_right (by simp; omega)] at hj
        have hz : i - (s.jobs.take k).length = (i - k - 1) + 1 := by rw [List.length_take]; omega
        rw [hz, List.getElem?_cons_succ, List.getElem?_drop] at hj
        obtain ⟨bv, av, r1, r2, r3⟩ := hjb _ j hj
        refine ⟨bv, av, ?_, hup r2, hup r3⟩
        rw [List.append_assoc, List.getElem?_append_right (by simp; omega)]
        have hz2 : i - (css.take k).length = (i - k - 1) + 1 := by rw [List.length_take]; omega
        rw [hz2, List.singleton_append, List.getElem?_cons_succ, List.getElem?_drop]
        exact r1
  · refine ⟨Nat.lt_of_lt_of_le (hri6.sep q hq).1 hc.size, fun ho => ?_⟩
    rcases ho with e | e | e | e
    · exact (hri6.sep q hq).2 (.inl e)
    · exact (hri6.sep q hq).2 (.inr (.inl e))
    · have := hv6b q e; have := (hr.sep q hq).1; omega
    · exact (hri6.sep q hq).2 (.inr (.inr (.inr e)))
set_option maxHeartbeats 8000000 in
set_option maxRecDepth 100000 in
theorem rAdd_any (hr : RI w h al jv tv T s) (hw : WF s) (id : Int) (hid : Go.Mem.I64 id) (B : Option Addr) (nb cb : Nat) (body : List UInt8) (hb : ByT w T (.slice B nb cb) body) : Calls Try.prog 21 #[.pointer (some ⟨h, 0, none⟩), .int .i64 id, .slice B nb cb] w fun e w' => e = .returned (.int .i64 (Pl.add s id body).2) ∧ RAdd w w' h al jv tv T (Pl.add s id body).1 := by
  have HB := Lib.hid hb
  obtain ⟨B', cb', hbe, hbr, hbc, hbm, _⟩ := hb
  injection hbe with e1 e2 e3
  subst e1 e2 e3
  have hbl : body.length ≤ 9223372036854775807 := by simp only [maxLen] at hbm; omega
  obtain ⟨nb, hnb⟩ : ∃ nb, body.length = nb := ⟨_, rfl⟩
  have HR := Lib.hid hr
  obtain ⟨A3, c3, hv3, hn3, hc3⟩ := hr.shape.2.1
  obtain ⟨_, _, _, b3, _⟩ := hr.cells
  have hbh := hr.blk.lt
  have hjl := hw.len
  obtain ⟨n, hn⟩ : ∃ n, s.jobs.length = n := ⟨_, rfl⟩
  obtain ⟨hid1, hid2⟩ := hid
  unfold Pl.add
  rw [hnb] at hbl ⊢
  rw [hn] at hv3 hjl hn3 ⊢
  by_cases h1 : id < 0
  · rw [if_pos h1]
    clear hr hbr hbc hbm hn hnb hw
    subst hv3
    go_enter Try.func21, Try.ntmps21
    go_wp2_with fail
    go_ret
    exact ⟨rfl, .same HR.out⟩
  rw [if_neg h1]
  by_cases h2 : 65536 < nb
  · rw [if_pos (.inl h2)]
    clear hr hbr hbc hbm hn hnb hw
    subst hv3
    go_enter Try.func21, Try.ntmps21
    go_wp2_with fail
    go_ret
    exact ⟨rfl, .same HR.out⟩
  by_cases h3 : 1024 ≤ n
  · rw [if_pos (.inr h3)]
    clear hr hbr hbc hbm hn hnb hw
    subst hv3
    go_enter Try.func21, Try.ntmps21
    go_wp2_with fail
    go_ret
    exact ⟨rfl, .same HR.out⟩
  rw [if_neg (by omega)]
  have HF := Lib.hid (rFind_any hr id)
  cases hf : findJ s.jobs id with
  | some k =>
    have hfe : find s id = (k : Int) := by unfold find; rw [hf]
    rw [hfe] at HF
    rw [if_pos (show (some k).isSome = true from rfl)]
    clear hr hbr hbc hbm hn hnb hw hf hfe
    subst hv3
    go_enter Try.func21, Try.ntmps21
    go_wp2_with fail
    refine HF.out.mono ?_
    rintro e w1 ⟨rfl, hw1⟩
    subst hw1
    go_wp2_with fail
    go_ret
    exact ⟨rfl, .same HR.out⟩
  | none =>
    have hfe : find s id = -1 := by unfold find; rw [hf]
    rw [hfe] at HF
    rw [if_neg (show ¬ ((none : Option Nat).isSome = true) by simp)]
    have HN := Lib.hid hn
    have HNB := Lib.hid hnb
    have HW := Lib.hid hw
    clear hr hbr hbc hbm hn hnb hw hf hfe
    subst hv3
    go_enter Try.func21, Try.ntmps21
    go_wp2_with fail
    refine HF.out.mono ?_
    rintro e w1 ⟨rfl, hw1⟩
    subst hw1
    go_wp2_with fail
    go_loopw [7] (fun v wr => ∃ k : Nat, v = .int .i64 (k : Int) ∧ k ≤ n ∧ Hid (wr = w1 ∧ ∀ (i : Nat) j, i < k → s.jobs[i]? = some j → j.id < id)) (fun v _ => n - (intOf v).toNat)
    case atStart => exact ⟨0, rfl, by omega, Lib.hid ⟨by first | rfl | trivial, fun i j hi => by omega⟩⟩
    case round =>
      obtain ⟨k, rfl, hk, hh⟩ := hrel
      obtain ⟨hwe, hlo⟩ := hh.out
      clear hh
      subst hwe
      have HLO := Lib.hid hlo
      clear hlo
      by_cases hlt : k < n
      · obtain ⟨j, hj⟩ : ∃ j, s.jobs[k]? = some j := ⟨_, List.getElem?_eq_getElem (by rw [HN.out]; exact hlt)⟩
        obtain ⟨gj, c', bv, av, hv, _, _, k0, _⟩ := HR.out.jobs.at_ hj
        rw [HN.out] at hv
        injection hv with hv1 hv2 hv3
        obtain ⟨jid, hjid⟩ : ∃ x, j.id = x := ⟨_, rfl⟩
        rw [hjid] at k0
        by_cases hlo2 : jid < id
        · subst hv1 hv3
          have HJ := Lib.hid (And.intro hj hjid)
          have hbx : decide (jid < id) = true := decide_eq_true hlo2
          clear hj hjid hv2
          go_wp2_with fail
          refine ⟨⟨k + 1, rfl, by omega, Lib.hid ⟨by first | rfl | trivial, fun i j' hi hj' => ?_⟩⟩, by simp [intOf]; omega⟩
          by_cases e : i = k
          · subst e
            obtain rfl : j = j' := Option.some.inj (HJ.out.1.symm.trans hj')
            rw [HJ.out.2]
            exact hlo2
          · exact HLO.out i j' (by omega) hj'
        · have hstop : ∀ j, s.jobs[k]? = some j → ¬ j.id < id := fun j' hj' => by
            obtain rfl : j = j' := Option.some.inj (hj.symm.trans hj')
            rw [hjid]; exact hlo2
          have hbx : decide (jid < id) = false := decide_eq_false hlo2
          subst hv1 hv3
          clear hj hjid hv2
          have hck : ¬ c3 = k := by omega
          have HST := Lib.hid hstop
          clear hstop
          obtain ⟨css, o0, hcl, h7, hone, hjb⟩ := HR.out.jobs.open
          rw [HN.out] at o0 hcl
          have hs1 : ∀ W, (Instr.slice 101 (.slice (some ⟨gj, 0, none⟩) n c3) none (some (.int .i64 (k : Int))) none).run Try.prog W = .ok (.slice (some ⟨gj, 0, none⟩) k c3) W := fun W => run_uptoN elemJobs .i64 (some ⟨gj, 0, none⟩) n c3 k _ rfl (by omega) W
          have hr0 := RdN.of_own (by omega) o0
          have hr1 := hr0.take (k := k) (by omega)
          rw [flat_take h7] at hr1
          obtain ⟨v1, w1, hrun1, o1, g1, bk1⟩ := run_appN (c := c3) elemJobs 101 (World.ownsRow_nil wr wr.heap.size 107 7) hr1 (flat_one (fun y hy => hone y (List.mem_of_mem_take hy))) (by simp only [maxLen]; omega) (by omega) (Nat.le_refl _)
          rw [List.nil_append, Nat.zero_add] at o1
          have n1 : New wr w1 := (Chg.refl _ wr).grown g1 (fun q hq => by cases hq)
          obtain ⟨A1, c1, hv1, _⟩ := ownN_shape o1
          subst hv1
          obtain ⟨w2, hw2⟩ : ∃ w2, w1.alloc (.cells #[.int .i64 id, .slice B nb cb, .int .i64 0, .bool false, .int .i64 0, .int .i64 0, .slice none 0 0] 107) = w2 := ⟨_, rfl⟩
          obtain ⟨G, hG⟩ : ∃ G, w1.heap.size = G := ⟨_, rfl⟩
          have n2 : New w1 w2 := by rw [← hw2]; exact (Chg.refl _ _).alloc _
          have hb2 : Blk w2 G 107 #[.int .i64 id, .slice B nb cb, .int .i64 0, .bool false, .int .i64 0, .int .i64 0, .slice none 0 0] := by rw [← hw2, ← hG]; exact Blk.new _ _ _
          have hr2 : RdN w2 (some ⟨G, 0, none⟩) 7 1 (jobR ⟨id, body, 0, none⟩ (.slice B nb cb) (.slice none 0 0)) := ⟨rfl, fun _ => ⟨_, rfl, fun j u hu => by rw [Addr.add_lit, Nat.zero_add]; exact hb2.cell j (by simpa [jobR, ansW, ansN] using hu)⟩⟩
          obtain ⟨v3, w3, hrun2, o3, g3, bk3⟩ := run_appN (c := 1) elemJobs 101 (ownN_chg o1 n2 (fun _ _ h => h)) hr2 (by simp [jobR, Value.oneCell']) (by simp only [maxLen]; omega) (by omega) (by have := n1.size; have := n2.size; omega)
          have c3' : Chg (fun q => (Value.slice A1 k c1).ownBlock = some q) w2 w3 := (Chg.refl (fun q => (Value.slice A1 k c1).ownBlock = some q) w2).grown g3 (fun q hq _ => hq)
          have n3 : New wr w3 := (n1.trans n2 (fun _ _ h => h)).trans c3' (fun q hq e => by have := (ownN_lt o1 e).1; omega)
          obtain ⟨A4, c4, hv4, _⟩ := ownN_shape o3
          subst hv4
          have hA5 : (if c3 = k then (some ⟨gj, 0, none⟩) else ((some ⟨gj, 0, none⟩) : Option Addr).map (·.add (k * 7))) = (some ⟨gj, k * 7, none⟩) := by rw [if_neg hck]; show some (Addr.add _ _) = _; rw [Addr.add_lit, Nat.zero_add]
          have hs2 : ∀ W, (Instr.slice 101 (.slice (some ⟨gj, 0, none⟩) n c3) (some (.int .i64 (k : Int))) none none).run Try.prog W = .ok (.slice (some ⟨gj, k * 7, none⟩) (n - k) (c3 - k)) W := fun W => hA5 ▸ run_cutN elemJobs .i64 (some ⟨gj, 0, none⟩) n c3 k _ rfl (by omega) W
          have hr5 := (hr0.new n3).cut (k := k) (cap := c3) (by omega) hn3
          rw [hA5, flat_drop h7] at hr5
          obtain ⟨v6, w6, hrun3, o6, g6, bk6⟩ := run_appN (c := c3 - k) elemJobs 101 o3 hr5 (flat_one (fun y hy => hone y (List.mem_of_mem_drop hy))) (by simp only [maxLen]; omega) (by omega) (by have := n3.size; omega)
          obtain ⟨A9, c9, hv9, _⟩ := ownN_shape o6
          subst hv9
          have c6 : Chg (fun q => (Value.slice A4 (k + 1) c4).ownBlock = some q) w3 w6 := (Chg.refl (fun q => (Value.slice A4 (k + 1) c4).ownBlock = some q) w3).grown g6 (fun q hq _ => hq)
          have n6 : New wr w6 := n3.trans c6 (fun q hq e => by have := (ownN_lt o3 e).1; omega)
          have hbh3 := HR.out.blk.chg n3 (fun h => h)
          have hbh6 := HR.out.blk.chg n6 (fun h => h)
          have k31 := hbh3.cell 3 (u := .slice (some ⟨gj, 0, none⟩) n c3) rfl
          have k61 := hbh6.cell 3 (u := .slice (some ⟨gj, 0, none⟩) n c3) rfl
          have kf6 := hbh6.frozen 3
          have kl6 := hbh6.lt
          have k11 := (HR.out.blk.chg n1 (fun h => h)).cell 3 (u := .slice (some ⟨gj, 0, none⟩) n c3) rfl
          have hfin := add_fin (id := id) (body := body) (B := B) (nb := nb) (cb := cb) (css := css) (k := k) (m := k + 1 + (n - k)) HR.out (by have := HN.out; omega) h7 hjb HLO.out HST.out (by have := HN.out; omega) n6 (by have := HN.out; omega) rfl o6 (by have := HB.out; rw [HNB.out] at this; exact this)
          have HFIN := Lib.hid hfin
          clear hfin hr0 hr1 hr2 hr5 o0 o1 o3 o6 g1 g3 g6 bk1 bk3 bk6 n1 n2 n3 n6 c3' c6 hb2 hbh3 hbh6 hone h7 hjb hcl css
          go_upto_region 12 with (at_builtin; refine wpList_plain rfl fun Kq hKq => ?_; refine step_appN rfl _ _ _ rfl rfl rfl hrun1 (hKq _ _ ?_))
          go_upto_region 13 with (at_builtin; refine wpList_plain rfl fun Kq hKq => ?_; refine step_appN rfl _ _ _ rfl rfl rfl hrun2 (hKq _ _ ?_))
          go_wp2_with (at_builtin; refine wpList_plain rfl fun Kq hKq => ?_; refine step_appN rfl _ _ _ rfl rfl rfl hrun3 (hKq _ _ ?_))
          go_ret
          exact ⟨rfl, HFIN.out⟩
      · have hstop : ∀ j, s.jobs[k]? = some j → ¬ j.id < id := fun j' hj' => by
          have := (List.getElem?_eq_some_iff.1 hj').1
          have := HN.out
          omega
        obtain rfl : n = k := by omega
        obtain ⟨xs0, hx0⟩ := HR.out.jobs.own
        rw [HN.out] at hx0
        rcases hx0.2 with ⟨hv0, hn0⟩ | ⟨gj, cap0, cur0, hv0, _⟩
        · subst hn0
          injection hv0 with e1 e2 e3
          subst e1 e3
          clear hx0 e2
          have HST := Lib.hid hstop
          clear hstop
          obtain ⟨css, o0, hcl, h7, hone, hjb⟩ := HR.out.jobs.open
          rw [HN.out] at o0 hcl
          have hs1 : ∀ W, (Instr.slice 101 (.slice none 0 0) none (some (.int .i64 (0 : Int))) none).run Try.prog W = .ok (.slice none 0 0) W := fun W => run_uptoN elemJobs .i64 none 0 0 0 _ rfl (by omega) W
          have hr0 := RdN.of_own (by omega) o0
          have hr1 := hr0.take (k := 0) (by omega)
          rw [flat_take h7] at hr1
          obtain ⟨v1, w1, hrun1, o1, g1, bk1⟩ := run_appN (c := 0) elemJobs 101 (World.ownsRow_nil wr wr.heap.size 107 7) hr1 (flat_one (fun y hy => hone y (List.mem_of_mem_take hy))) (by simp only [maxLen]; omega) (by omega) (Nat.le_refl _)
          rw [List.nil_append, Nat.zero_add] at o1
          have n1 : New wr w1 := (Chg.refl _ wr).grown g1 (fun q hq => by cases hq)
          obtain ⟨A1, c1, hv1, _⟩ := ownN_shape o1
          subst hv1
          obtain ⟨w2, hw2⟩ : ∃ w2, w1.alloc (.cells #[.int .i64 id, .slice B nb cb, .int .i64 0, .bool false, .int .i64 0, .int .i64 0, .slice none 0 0] 107) = w2 := ⟨_, rfl⟩
          obtain ⟨G, hG⟩ : ∃ G, w1.heap.size = G := ⟨_, rfl⟩
          have n2 : New w1 w2 := by rw [← hw2]; exact (Chg.refl _ _).alloc _
          have hb2 : Blk w2 G 107 #[.int .i64 id, .slice B nb cb, .int .i64 0, .bool false, .int .i64 0, .int .i64 0, .slice none 0 0] := by rw [← hw2, ← hG]; exact Blk.new _ _ _
          have hr2 : RdN w2 (some ⟨G, 0, none⟩) 7 1 (jobR ⟨id, body, 0, none⟩ (.slice B nb cb) (.slice none 0 0)) := ⟨rfl, fun _ => ⟨_, rfl, fun j u hu => by rw [Addr.add_lit, Nat.zero_add]; exact hb2.cell j (by simpa [jobR, ansW, ansN] using hu)⟩⟩
          obtain ⟨v3, w3, hrun2, o3, g3, bk3⟩ := run_appN (c := 1) elemJobs 101 (ownN_chg o1 n2 (fun _ _ h => h)) hr2 (by simp [jobR, Value.oneCell']) (by simp only [maxLen]; omega) (by omega) (by have := n1.size; have := n2.size; omega)
          have c3' : Chg (fun q => (Value.slice A1 0 c1).ownBlock = some q) w2 w3 := (Chg.refl (fun q => (Value.slice A1 0 c1).ownBlock = some q) w2).grown g3 (fun q hq _ => hq)
          have n3 : New wr w3 := (n1.trans n2 (fun _ _ h => h)).trans c3' (fun q hq e => by have := (ownN_lt o1 e).1; omega)
          obtain ⟨A4, c4, hv4, _⟩ := ownN_shape o3
          subst hv4
          have hA5 : (if 0 = 0 then none else (none : Option Addr).map (·.add (0 * 7))) = none := by simp
          have hr5 : RdN w3 none 7 0 [] := ⟨rfl, fun h0 => absurd h0 (by omega)⟩
          obtain ⟨v6, w6, hrun3, o6, g6, bk6⟩ := run_appN (c := 0) elemJobs 101 o3 hr5 (fun u hu => by simp at hu) (by simp only [maxLen]; omega) (by omega) (by have := n3.size; omega)
          rw [Nat.add_zero, List.append_nil] at o6
          obtain ⟨A9, c9, hv9, _⟩ := ownN_shape o6
          subst hv9
          have c6 : Chg (fun q => (Value.slice A4 (0 + 1) c4).ownBlock = some q) w3 w6 := (Chg.refl (fun q => (Value.slice A4 (0 + 1) c4).ownBlock = some q) w3).grown g6 (fun q hq _ => hq)
          have n6 : New wr w6 := n3.trans c6 (fun q hq e => by have := (ownN_lt o3 e).1; omega)
          have hbh3 := HR.out.blk.chg n3 (fun h => h)
          have hbh6 := HR.out.blk.chg n6 (fun h => h)
          have k31 := hbh3.cell 3 (u := .slice none 0 0) rfl
          have k61 := hbh6.cell 3 (u := .slice none 0 0) rfl
          have kf6 := hbh6.frozen 3
          have kl6 := hbh6.lt
          have k11 := (HR.out.blk.chg n1 (fun h => h)).cell 3 (u := .slice none 0 0) rfl
          have hfin := add_fin (id := id) (body := body) (B := B) (nb := nb) (cb := cb) (css := css) (k := 0) (m := 0 + 1 + 0) HR.out (by have := HN.out; omega) h7 hjb HLO.out HST.out (by have := HN.out; omega) n6 (by have := HN.out; omega) (by rw [List.drop_eq_nil_of_le (by omega)]; simp) o6 (by have := HB.out; rw [HNB.out] at this; exact this)
          have HFIN := Lib.hid hfin
          clear hfin hr0 hr1 hr2 hr5 o0 o1 o3 o6 g1 g3 g6 bk1 bk3 bk6 n1 n2 n3 n6 c3' c6 hb2 hbh3 hbh6 hone h7 hjb hcl css
          go_upto_region 12 with (at_builtin; refine wpList_plain rfl fun Kq hKq => ?_; refine step_appN rfl _ _ _ rfl rfl rfl hrun1 (hKq _ _ ?_))
          go_upto_region 13 with (at_builtin; refine wpList_plain rfl fun Kq hKq => ?_; refine step_appN rfl _ _ _ rfl rfl rfl hrun2 (hKq _ _ ?_))
          go_wp2_with (at_builtin; refine wpList_plain rfl fun Kq hKq => ?_; refine step_appN rfl _ _ _ rfl rfl rfl hrun3 (hKq _ _ ?_))
          go_ret
          exact ⟨rfl, HFIN.out⟩
        · injection hv0 with e1 e2 e3
          subst e1 e3
          clear hx0 e2
          by_cases hck : c3 = n
          · subst hck
            have HST := Lib.hid hstop
            clear hstop
            obtain ⟨css, o0, hcl, h7, hone, hjb⟩ := HR.out.jobs.open
            rw [HN.out] at o0 hcl
            have hs1 : ∀ W, (Instr.slice 101 (.slice (some ⟨gj, 0, none⟩) c3 c3) none (some (.int .i64 (c3 : Int))) none).run Try.prog W = .ok (.slice (some ⟨gj, 0, none⟩) c3 c3) W := fun W => run_uptoN elemJobs .i64 (some ⟨gj, 0, none⟩) c3 c3 c3 _ rfl (by omega) W
            have hr0 := RdN.of_own (by omega) o0
            have hr1 := hr0.take (k := c3) (by omega)
            rw [flat_take h7] at hr1
            obtain ⟨v1, w1, hrun1, o1, g1, bk1⟩ := run_appN (c := c3) elemJobs 101 (World.ownsRow_nil wr wr.heap.size 107 7) hr1 (flat_one (fun y hy => hone y (List.mem_of_mem_take hy))) (by simp only [maxLen]; omega) (by omega) (Nat.le_refl _)
            rw [List.nil_append, Nat.zero_add] at o1
            have n1 : New wr w1 := (Chg.refl _ wr).grown g1 (fun q hq => by cases hq)
            obtain ⟨A1, c1, hv1, _⟩ := ownN_shape o1
            subst hv1
            obtain ⟨w2, hw2⟩ : ∃ w2, w1.alloc (.cells #[.int .i64 id, .slice B nb cb, .int .i64 0, .bool false, .int .i64 0, .int .i64 0, .slice none 0 0] 107) = w2 := ⟨_, rfl⟩
            obtain ⟨G, hG⟩ : ∃ G, w1.heap.size = G := ⟨_, rfl⟩
            have n2 : New w1 w2 := by rw [← hw2]; exact (Chg.refl _ _).alloc _
            have hb2 : Blk w2 G 107 #[.int .i64 id, .slice B nb cb, .int .i64 0, .bool false, .int .i64 0, .int .i64 0, .slice none 0 0] := by rw [← hw2, ← hG]; exact Blk.new _ _ _
            have hr2 : RdN w2 (some ⟨G, 0, none⟩) 7 1 (jobR ⟨id, body, 0, none⟩ (.slice B nb cb) (.slice none 0 0)) := ⟨rfl, fun _ => ⟨_, rfl, fun j u hu => by rw [Addr.add_lit, Nat.zero_add]; exact hb2.cell j (by simpa [jobR, ansW, ansN] using hu)⟩⟩
            obtain ⟨v3, w3, hrun2, o3, g3, bk3⟩ := run_appN (c := 1) elemJobs 101 (ownN_chg o1 n2 (fun _ _ h => h)) hr2 (by simp [jobR, Value.oneCell']) (by simp only [maxLen]; omega) (by omega) (by have := n1.size; have := n2.size; omega)
            have c3' : Chg (fun q => (Value.slice A1 c3 c1).ownBlock = some q) w2 w3 := (Chg.refl (fun q => (Value.slice A1 c3 c1).ownBlock = some q) w2).grown g3 (fun q hq _ => hq)
            have n3 : New wr w3 := (n1.trans n2 (fun _ _ h => h)).trans c3' (fun q hq e => by have := (ownN_lt o1 e).1; omega)
            obtain ⟨A4, c4, hv4, _⟩ := ownN_shape o3
            subst hv4
            have hA5 : (if c3 = c3 then (some ⟨gj, 0, none⟩) else ((some ⟨gj, 0, none⟩) : Option Addr).map (·.add (c3 * 7))) = (some ⟨gj, 0, none⟩) := by simp
            have hr5 : RdN w3 (some ⟨gj, 0, none⟩) 7 0 [] := ⟨rfl, fun h0 => absurd h0 (by omega)⟩
            obtain ⟨v6, w6, hrun3, o6, g6, bk6⟩ := run_appN (c := 0) elemJobs 101 o3 hr5 (fun u hu => by simp at hu) (by simp only [maxLen]; omega) (by omega) (by have := n3.size; omega)
            rw [Nat.add_zero, List.append_nil] at o6
            obtain ⟨A9, c9, hv9, _⟩ := ownN_shape o6
            subst hv9
            have c6 : Chg (fun q => (Value.slice A4 (c3 + 1) c4).ownBlock = some q) w3 w6 := (Chg.refl (fun q => (Value.slice A4 (c3 + 1) c4).ownBlock = some q) w3).grown g6 (fun q hq _ => hq)
            have n6 : New wr w6 := n3.trans c6 (fun q hq e => by have := (ownN_lt o3 e).1; omega)
            have hbh3 := HR.out.blk.chg n3 (fun h => h)
            have hbh6 := HR.out.blk.chg n6 (fun h => h)
            have k31 := hbh3.cell 3 (u := .slice (some ⟨gj, 0, none⟩) c3 c3) rfl
            have k61 := hbh6.cell 3 (u := .slice (some ⟨gj, 0, none⟩) c3 c3) rfl
            have kf6 := hbh6.frozen 3
            have kl6 := hbh6.lt
            have k11 := (HR.out.blk.chg n1 (fun h => h)).cell 3 (u := .slice (some ⟨gj, 0, none⟩) c3 c3) rfl
            have hfin := add_fin (id := id) (body := body) (B := B) (nb := nb) (cb := cb) (css := css) (k := c3) (m := c3 + 1 + 0) HR.out (by have := HN.out; omega) h7 hjb HLO.out HST.out (by have := HN.out; omega) n6 (by have := HN.out; omega) (by rw [List.drop_eq_nil_of_le (by omega)]; simp) o6 (by have := HB.out; rw [HNB.out] at this; exact this)
            have HFIN := Lib.hid hfin
            clear hfin hr0 hr1 hr2 hr5 o0 o1 o3 o6 g1 g3 g6 bk1 bk3 bk6 n1 n2 n3 n6 c3' c6 hb2 hbh3 hbh6 hone h7 hjb hcl css
            go_upto_region 12 with (at_builtin; refine wpList_plain rfl fun Kq hKq => ?_; refine step_appN rfl _ _ _ rfl rfl rfl hrun1 (hKq _ _ ?_))
            go_upto_region 13 with (at_builtin; refine wpList_plain rfl fun Kq hKq => ?_; refine step_appN rfl _ _ _ rfl rfl rfl hrun2 (hKq _ _ ?_))
            go_wp2_with (at_builtin; refine wpList_plain rfl fun Kq hKq => ?_; refine step_appN rfl _ _ _ rfl rfl rfl hrun3 (hKq _ _ ?_))
            go_ret
            exact ⟨rfl, HFIN.out⟩
          · have HST := Lib.hid hstop
            clear hstop
            obtain ⟨css, o0, hcl, h7, hone, hjb⟩ := HR.out.jobs.open
            rw [HN.out] at o0 hcl
            have hs1 : ∀ W, (Instr.slice 101 (.slice (some ⟨gj, 0, none⟩) n c3) none (some (.int .i64 (n : Int))) none).run Try.prog W = .ok (.slice (some ⟨gj, 0, none⟩) n c3) W := fun W => run_uptoN elemJobs .i64 (some ⟨gj, 0, none⟩) n c3 n _ rfl (by omega) W
            have hr0 := RdN.of_own (by omega) o0
            have hr1 := hr0.take (k := n) (by omega)
            rw [flat_take h7] at hr1
            obtain ⟨v1, w1, hrun1, o1, g1, bk1⟩ := run_appN (c := c3) elemJobs 101 (World.ownsRow_nil wr wr.heap.size 107 7) hr1 (flat_one (fun y hy => hone y (List.mem_of_mem_take hy))) (by simp only [maxLen]; omega) (by omega) (Nat.le_refl _)
            rw [List.nil_append, Nat.zero_add] at o1
            have n1 : New wr w1 := (Chg.refl _ wr).grown g1 (fun q hq => by cases hq)
            obtain ⟨A1, c1, hv1, _⟩ := ownN_shape o1
            subst hv1
            obtain ⟨w2, hw2⟩ : ∃ w2, w1.alloc (.cells #[.int .i64 id, .slice B nb cb, .int .i64 0, .bool false, .int .i64 0, .int .i64 0, .slice none 0 0] 107) = w2 := ⟨_, rfl⟩
            obtain ⟨G, hG⟩ : ∃ G, w1.heap.size = G := ⟨_, rfl⟩
            have n2 : New w1 w2 := by rw [← hw2]; exact (Chg.refl _ _).alloc _
            have hb2 : Blk w2 G 107 #[.int .i64 id, .slice B nb cb, .int .i64 0, .bool false, .int .i64 0, .int .i64 0, .slice none 0 0] := by rw [← hw2, ← hG]; exact Blk.new _ _ _
            have hr2 : RdN w2 (some ⟨G, 0, none⟩) 7 1 (jobR ⟨id, body, 0, none⟩ (.slice B nb cb) (.slice none 0 0)) := ⟨rfl, fun _ => ⟨_, rfl, fun j u hu => by rw [Addr.add_lit, Nat.zero_add]; exact hb2.cell j (by simpa [jobR, ansW, ansN] using hu)⟩⟩
            obtain ⟨v3, w3, hrun2, o3, g3, bk3⟩ := run_appN (c := 1) elemJobs 101 (ownN_chg o1 n2 (fun _ _ h => h)) hr2 (by simp [jobR, Value.oneCell']) (by simp only [maxLen]; omega) (by omega) (by have := n1.size; have := n2.size; omega)
            have c3' : Chg (fun q => (Value.slice A1 n c1).ownBlock = some q) w2 w3 := (Chg.refl (fun q => (Value.slice A1 n c1).ownBlock = some q) w2).grown g3 (fun q hq _ => hq)
            have n3 : New wr w3 := (n1.trans n2 (fun _ _ h => h)).trans c3' (fun q hq e => by have := (ownN_lt o1 e).1; omega)
            obtain ⟨A4, c4, hv4, _⟩ := ownN_shape o3
            subst hv4
            have hA5 : (if c3 = n then (some ⟨gj, 0, none⟩) else ((some ⟨gj, 0, none⟩) : Option Addr).map (·.add (n * 7))) = (some ⟨gj, n * 7, none⟩) := by rw [if_neg hck]; show some (Addr.add _ _) = _; rw [Addr.add_lit, Nat.zero_add]
            have hr5 : RdN w3 (some ⟨gj, n * 7, none⟩) 7 0 [] := ⟨rfl, fun h0 => absurd h0 (by omega)⟩
            obtain ⟨v6, w6, hrun3, o6, g6, bk6⟩ := run_appN (c := c3 - n) elemJobs 101 o3 hr5 (fun u hu => by simp at hu) (by simp only [maxLen]; omega) (by omega) (by have := n3.size; omega)
            rw [Nat.add_zero, List.append_nil] at o6
            obtain ⟨A9, c9, hv9, _⟩ := ownN_shape o6
            subst hv9
            have c6 : Chg (fun q => (Value.slice A4 (n + 1) c4).ownBlock = some q) w3 w6 := (Chg.refl (fun q => (Value.slice A4 (n + 1) c4).ownBlock = some q) w3).grown g6 (fun q hq _ => hq)
            have n6 : New wr w6 := n3.trans c6 (fun q hq e => by have := (ownN_lt o3 e).1; omega)
            have hbh3 := HR.out.blk.chg n3 (fun h => h)
            have hbh6 := HR.out.blk.chg n6 (fun h => h)
            have k31 := hbh3.cell 3 (u := .slice (some ⟨gj, 0, none⟩) n c3) rfl
            have k61 := hbh6.cell 3 (u := .slice (some ⟨gj, 0, none⟩) n c3) rfl
            have kf6 := hbh6.frozen 3
            have kl6 := hbh6.lt
            have k11 := (HR.out.blk.chg n1 (fun h => h)).cell 3 (u := .slice (some ⟨gj, 0, none⟩) n c3) rfl
            have hfin := add_fin (id := id) (body := body) (B := B) (nb := nb) (cb := cb) (css := css) (k := n) (m := n + 1 + 0) HR.out (by have := HN.out; omega) h7 hjb HLO.out HST.out (by have := HN.out; omega) n6 (by have := HN.out; omega) (by rw [List.drop_eq_nil_of_le (by omega)]; simp) o6 (by have := HB.out; rw [HNB.out] at this; exact this)
            have HFIN := Lib.hid hfin
            clear hfin hr0 hr1 hr2 hr5 o0 o1 o3 o6 g1 g3 g6 bk1 bk3 bk6 n1 n2 n3 n6 c3' c6 hb2 hbh3 hbh6 hone h7 hjb hcl css
            go_upto_region 12 with (at_builtin; refine wpList_plain rfl fun Kq hKq => ?_; refine step_appN rfl _ _ _ rfl rfl rfl hrun1 (hKq _ _ ?_))
            go_upto_region 13 with (at_builtin; refine wpList_plain rfl fun Kq hKq => ?_; refine step_appN rfl _ _ _ rfl rfl rfl hrun2 (hKq _ _ ?_))
            go_wp2_with (at_builtin; refine wpList_plain rfl fun Kq hKq => ?_; refine step_appN rfl _ _ _ rfl rfl rfl hrun3 (hKq _ _ ?_))
            go_ret
            exact ⟨rfl, HFIN.out⟩
end
end Go.Proofs.Ytbmplfhcdkeooaa
