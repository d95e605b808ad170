/- What DiskPrefix asks: rows of bytes of an argument; bytes of a slice; small operations on bytes; max. -/
import Derived.Test.YtffehmfjcglalaaDkhZ
import Derived.Test.YtffehmfjcglalaaIntPZ
import Derived.Test.YtffehmfjcglalaaG0
set_option linter.unusedSimpArgs false
set_option linter.unusedVariables false
namespace Go.Dk
/-- The number of ones. -/
def pop (n : Nat) : Nat := if h : n = 0 then 0 else n % 2 + pop (n / 2)
termination_by n
decreasing_by omega
theorem pop_zero : pop 0 = 0 := by unfold pop; rfl
theorem pop_step {n : Nat} (h : 0 < n) : pop n = n % 2 + pop (n / 2) := by rw [pop]; simp; omega
/-- The number of bits in which the first j bytes differ. -/
def popTo (x y : List UInt8) : Nat → Nat
  | 0 => 0
  | j + 1 => popTo x y j + pop (x.getD j 0 ^^^ y.getD j 0).toNat
theorem pop_two (n : Nat) : pop (n * 2) = pop n := by
  rcases Nat.eq_zero_or_pos n with rfl | h
  · rfl
  · rw [pop_step (by omega), show n * 2 % 2 = 0 by omega, show n * 2 / 2 = n by omega, Nat.zero_add]
theorem pop_pow : ∀ j : Nat, pop (2 ^ j) = 1
  | 0 => by rw [pop_step (by decide)]; exact congrArg (1 + ·) pop_zero
  | j + 1 => by rw [Nat.pow_succ, pop_two, pop_pow j]
theorem pow_nat : ∀ k : Fin 8, (UInt8.ofNat (2 ^ (7 - k.val))).toNat = 2 ^ (7 - k.val) := by decide
theorem pop_one {k : Nat} (hk : k < 8) : pop (UInt8.ofNat (2 ^ (7 - k))).toNat = 1 := by
  rw [pow_nat ⟨k, hk⟩]
  exact pop_pow _
theorem popTo_same {x y : List UInt8} : ∀ j, (∀ i, i < j → x.getD i 0 = y.getD i 0) → popTo x y j = 0
  | 0, _ => rfl
  | j + 1, h => by
    unfold popTo
    rw [popTo_same j (fun i hi => h i (by omega)), h j (by omega), UInt8.xor_self, Nat.zero_add]
    exact pop_zero
theorem popTo_one {x y : List UInt8} {p k : Nat} (hk : k < 8) (hp : x.getD p 0 = y.getD p 0 ^^^ UInt8.ofNat (2 ^ (7 - k))) (h : ∀ i, i ≠ p → x.getD i 0 = y.getD i 0) : ∀ j, popTo x y j = if p < j then 1 else 0
  | 0 => rfl
  | j + 1 => by
    unfold popTo
    rw [popTo_one hk hp h j]
    by_cases e : p = j
    · subst e
      rw [hp, if_neg (by omega), if_pos (by omega), UInt8.xor_comm (y.getD p 0), UInt8.xor_assoc, UInt8.xor_self, UInt8.xor_zero, pop_one hk]
    · rw [h j (fun e2 => e e2.symm), UInt8.xor_self, show (0 : UInt8).toNat = 0 from rfl, pop_zero]
      by_cases e2 : p < j
      · rw [if_pos e2, if_pos (by omega)]
      · rw [if_neg e2, if_neg (by omega)]
theorem take_getD {l : List UInt8} {i n : Nat} (h : i < n) : (l.take n).getD i 0 = l.getD i 0 := by
  rw [List.getD_eq_getElem?_getD, List.getD_eq_getElem?_getD, List.getElem?_take_of_lt h]
theorem behind_len' {l : List UInt8} {d m : Nat} {flip : Int} (h : d + m ≤ l.length) : (behind l d m flip).length = d + m := by
  unfold behind
  split
  · rw [turn_len, List.length_take]; omega
  · rw [List.length_take]; omega
theorem turn_take {l : List UInt8} {p k d : Nat} (h : d ≤ p) : (turn l p k).take d = l.take d := by
  unfold turn
  apply List.ext_getElem?
  intro j
  rw [List.getElem?_take, List.getElem?_take]
  split
  · have e : ¬ p = j := by omega
    rw [List.getElem?_modify]
    simp [e]
  · rfl
theorem behind_take {l : List UInt8} {d m : Nat} {flip : Int} : (behind l d m flip).take d = l.take d := by
  unfold behind
  split
  · rw [turn_take (by omega), List.take_take]
    congr 1
    omega
  · rw [List.take_take]
    congr 1
    omega
theorem behind_pop {l : List UInt8} {d m : Nat} {flip : Int} (h : d + m ≤ l.length) : popTo (behind l d m flip) l (d + m) = if 0 ≤ flip ∧ 0 < m then 1 else 0 := by
  unfold behind
  split
  · rename_i hc
    have hb : flip.toNat % (8 * m) < 8 * m := Nat.mod_lt _ (by omega)
    generalize flip.toNat % (8 * m) = b at *
    have hpl : d + b / 8 < (l.take (d + m)).length := by rw [List.length_take]; omega
    have hc2 : popTo (turn (l.take (d + m)) (d + b / 8) (b % 8)) l (d + m) = popTo (turn (l.take (d + m)) (d + b / 8) (b % 8)) (l.take (d + m)) (d + m) := by
      have : ∀ j, j ≤ d + m → popTo (turn (l.take (d + m)) (d + b / 8) (b % 8)) l j = popTo (turn (l.take (d + m)) (d + b / 8) (b % 8)) (l.take (d + m)) j := by
        intro j
        induction j with
        | zero => intro _; rfl
        | succ j ih => intro hj; unfold popTo; rw [ih (by omega), take_getD (by omega)]
      exact this _ (Nat.le_refl _)
    rw [hc2, popTo_one (k := b % 8) (p := d + b / 8) (by omega) ?_ ?_, if_pos (by omega)]
    · rw [turn_set hpl, List.getD_eq_getElem?_getD, List.getElem?_set_self (by omega), List.getD_eq_getElem?_getD, List.getElem?_eq_getElem hpl]
      rfl
    · intro i hi
      rw [turn_set hpl, List.getD_eq_getElem?_getD, List.getElem?_set_ne (by omega), List.getD_eq_getElem?_getD]
  · exact popTo_same _ (fun i hi => take_getD hi)
end Go.Dk
namespace Go.Proofs.Ytffehmfjcglalaa
set_option linter.unusedVariables false
open Go.RowKit Go.Mem Go.Dk Go.Col

/-- Rows of bytes of an argument. -/
def rowsP (ls : List (List UInt8)) : TyC := ⟨fun v w c => ∃ A cp vs, v = .slice A ls.length cp ∧ Rd w A ls.length vs ∧ ls.length ≤ cp ∧ cp ≤ 9223372036854775807 ∧ (∀ ad, A = some ad → 0 < ls.length → c ad.block = 0) ∧ ∀ (k : Nat) (x : List UInt8) (u : Value), ls[k]? = some x → vs[k]? = some u → (byP x).sat u w c, fun {S v w c w' c'} h g e => by
  obtain ⟨A, cp, vs, h1, h2, h3, h4, h5, h6⟩ := h
  refine ⟨A, cp, vs, h1, rd_ext0 h2 h5 e, h3, h4, fun ad h7 h8 => ?_, fun k x u hx hu => (byP x).stab (h6 k x u hx hu) g e⟩
  have h9 := h5 ad h7 h8
  obtain ⟨ad', u, e1, _, hc⟩ := h2.at_ h8
  rw [h7] at e1
  injection e1 with e1
  subst e1
  have h11 := cell_lt hc
  rw [e.col ad.block h11, h9]⟩
/-- A pointer to a row. -/
def refBP (x : List UInt8) : TyC := ⟨fun v w c => ∃ ad u, v = .pointer (some ad) ∧ w.cell? ad = some u ∧ c ad.block = 0 ∧ (byP x).sat u w c, fun {S v w c w' c'} ⟨ad, u, h1, h2, h3, h4⟩ g e => ⟨ad, u, h1, e.chg.cell h2 (by rw [h3, e.z]; simp), (e.col ad.block (cell_lt h2)).trans h3, (byP x).stab h4 g e⟩⟩
/-- A pointer to a byte. -/
def refU8 (y : UInt8) : TyC := ⟨fun v w c => ∃ ad, v = .pointer (some ad) ∧ w.cell? ad = some (By y) ∧ c ad.block = 0, fun {S v w c w' c'} ⟨ad, h1, h2, h3⟩ g e => ⟨ad, h1, e.chg.cell h2 (by rw [h3, e.z]; simp), (e.col ad.block (cell_lt h2)).trans h3⟩⟩
theorem flatU8 : Flat Try.prog 5 := ⟨_, Try.underlying5, rfl⟩
theorem flatBs : Flat Try.prog 33 := ⟨_, Try.underlying33, rfl⟩
section
variable {w : World} {c : Colr} {v u : Value} {n : Nat} {l l' : List UInt8}
theorem rowsP_len {ls : List (List UInt8)} {k : Nat} (h : (rowsP ls).sat v w c) (e : ls.length = k) : ∃ A cp, v = .slice A k cp := by
  subst e
  obtain ⟨A, cp, vs, rfl, _⟩ := h
  exact ⟨A, cp, rfl⟩
theorem rowsP_index {ls : List (List UInt8)} {i : Nat} (h : (rowsP ls).sat v w c) (h1 : i < ls.length) : ∃ p, (Instr.indexAt 27 v (.int .i64 (i : Int))).run Try.prog w = .ok p w ∧ (refBP (ls.getD i [])).sat p w c := by
  obtain ⟨A, cp, vs, rfl, h2, h3, h4, h5, h6⟩ := h
  obtain ⟨ad, u, rfl, hu, hc⟩ := h2.at_ h1
  obtain ⟨ad', e1, hr⟩ := rd_index (P := Try.prog) (kd := .i64) (cp := cp) Try.underlying27 (by kernel_rfl) h2 h1
  injection e1 with e1
  subst e1
  exact ⟨_, hr, _, u, rfl, hc, by rw [add_block]; exact h5 ad rfl (by omega), h6 i _ u (by simp [List.getD, List.getElem?_eq_getElem h1]) hu⟩
theorem refBP_load {x : List UInt8} (h : (refBP x).sat v w c) : ∃ ad u, v = .pointer (some ad) ∧ (loadVar 33 ad).run Try.prog w = .ok u w ∧ (byP x).sat u w c := by
  obtain ⟨ad, u, rfl, hc, _, h4⟩ := h
  refine ⟨ad, u, rfl, ?_, h4⟩
  obtain ⟨d, hu, hd⟩ := flatBs
  cases d <;> simp_all [loadVar, isAgg, run_underlying hu]
theorem byC_index {i : Nat} (h : (byC l).sat v w c) (h1 : i < l.length) : ∃ p, (Instr.indexAt 33 v (.int .i64 (i : Int))).run Try.prog w = .ok p w ∧ (refU8 (l.getD i 0)).sat p w c := by
  obtain ⟨A, cp, rfl, h2, h3, h5⟩ := h
  obtain ⟨ad, u, rfl, hu, hc⟩ := h2.at_ h1
  obtain ⟨z, hz, rfl⟩ := bs_at hu
  obtain ⟨ad', e1, hr⟩ := rd_index (P := Try.prog) (kd := .i64) (cp := cp) Try.underlying33 (by kernel_rfl) h2 h1
  injection e1 with e1
  subst e1
  exact ⟨_, hr, _, rfl, by rw [hc]; simp [List.getD, hz, By], by rw [add_block]; exact (h5 ad rfl).2⟩
theorem refU8_load {y : UInt8} (h : (refU8 y).sat v w c) : ∃ ad u, v = .pointer (some ad) ∧ (loadVar 5 ad).run Try.prog w = .ok u w ∧ u = .int .u8 (y.toNat : Int) := by
  obtain ⟨ad, rfl, hc, _⟩ := h
  refine ⟨ad, _, rfl, ?_, rfl⟩
  obtain ⟨d, hu, hd⟩ := flatU8
  cases d <;> simp_all [loadVar, isAgg, run_underlying hu, By]
theorem bv_open {m : Nat} (h : (bvO n l).sat v w c) (hm : l.length = m) (h0 : 0 < m) : ∃ g cp, v = .slice (some ⟨g, 0, none⟩) m cp ∧ m ≤ cp := by
  subst hm
  obtain ⟨h1, _⟩ := h
  have hl : (bs l).length = l.length := by simp [bs]
  rcases h1 with ⟨_, e⟩ | ⟨g, cp, rest, e, _, h3, _⟩
  · rw [e] at hl
    simp at hl
    omega
  · rw [hl] at e h3
    exact ⟨g, cp, e, by omega⟩
theorem bv_load {g m cp k : Nat} (h : (bvO n l).sat (.slice (some ⟨g, 0, none⟩) m cp) w c) (hk : k < l.length) : ∃ u, (loadVar 5 ⟨g, k * 1, none⟩).run Try.prog w = .ok u w ∧ (TyC.eq (.int .u8 ((l.getD k 0).toNat : Int))).sat u w c := by
  obtain ⟨h1, _⟩ := h
  obtain ⟨h2, _⟩ := RowV.cellAt h1 (p := k) (u := By (l.getD k 0)) (by simp [bs, List.getElem?_map, List.getElem?_eq_getElem hk, List.getD])
  refine ⟨_, ?_, rfl⟩
  rw [Nat.mul_one]
  obtain ⟨d, hu, hd⟩ := flatU8
  cases d <;> simp_all [loadVar, isAgg, run_underlying hu, By]
theorem bv_take {g m cp k : Nat} (h : (bvO n l).sat (.slice (some ⟨g, 0, none⟩) m cp) w c) (hk : k ≤ l.length) : Rb (.slice (some ⟨g, 0, none⟩) k cp) w (l.take k) := by
  obtain ⟨h1, _⟩ := h
  have hl : (bs l).length = l.length := by simp [bs]
  have h2 := RowV.pre h1 (k := k) (by rw [hl]; exact hk)
  have h3 : (l.take k).length = k := by rw [List.length_take]; omega
  have h4 := h2.rd
  rw [show (bs l).take k = bs (l.take k) by rw [bs_take]] at h4
  exact ⟨_, cp, by rw [h3], by rw [h3]; exact h4, fun b hb => h2.lt hb⟩
theorem k_sameR (h : Rb v w l) (h' : Rb u w l') (hl : l.length ≤ 1000000000) (e : l = l') : CV Try.prog 29 #[v, u] w c (TyC.eq (.bool true)) := by
  subst e
  obtain ⟨A, cp, rfl, h2, _⟩ := h
  obtain ⟨B, cq, rfl, h4, _⟩ := h'
  refine CV.of_newc (R := fun u _ => u = .bool true) ((sameBytes_any A B l.length l.length cp cq l l w h2 h4 (by omega) (by omega)).mono ?_) (fun u w' _ h => h)
  rintro e w' ⟨rfl, h6⟩
  exact ⟨_, rfl, by simp, h6⟩
end
theorem run_xorB {P : Program} {w : World} (t : TypeId) (a b : UInt8) : (binOp .xor t (.int .u8 (a.toNat : Int)) (.int .u8 (b.toNat : Int))).run P w = .ok (.int .u8 (((a ^^^ b).toNat : Nat) : Int)) w := by
  have := u8_xor_nat a.toNat b.toNat (UInt8.toNat_lt a) (UInt8.toNat_lt b)
  simp [binOp, go_sem, this]
theorem run_remB {P : Program} {w : World} (t : TypeId) (k : Nat) : (binOp .rem t (.int .u8 (k : Int)) (.int .u8 2)).run P w = .ok (.int .u8 ((k % 2 : Nat) : Int)) w := by
  have : (k : Int).tmod 2 = ((k % 2 : Nat) : Int) := by rw [Int.tmod_eq_emod_of_nonneg (by omega)]; omega
  simp [binOp, Op.intDiv, go_sem, this]
theorem run_quoB {P : Program} {w : World} (t : TypeId) (k : Nat) (hk : k < 256) : (binOp .quo t (.int .u8 (k : Int)) (.int .u8 2)).run P w = .ok (.int .u8 ((k / 2 : Nat) : Int)) w := by
  have : (k : Int).tdiv 2 = ((k / 2 : Nat) : Int) := by rw [Int.tdiv_eq_ediv_of_nonneg (by omega)]; omega
  simp [binOp, Op.intDiv, go_sem, this, IntKind.wrap, IntKind.bits, IntKind.signed]
  omega
theorem run_cvt {P : Program} {w : World} {src dst : TypeId} (hs : P.underlying src = some (.int .u8)) (hd : P.underlying dst = some (.int .i64)) (k : Nat) (hk : k < 256) : (convert src dst (.int .u8 (k : Int))).run P w = .ok (.int .i64 (k : Int)) w := by
  have h : IntKind.i64.wrap (k : Int) = (k : Int) := IntWalk.i64_in _ (by omega)
  simp [convert, run_underlying hs, run_underlying hd, go_sem, h]
section
variable {P : Program} {l : List Oper} {dt : List (List Nat)} {Q : Exit → Act → World → Prop} {n : Nat} {a : Act} {m : Nat → Option Value} {D CB : List Nat} {Fs : List RF} {V : Nat → TyC} {w0 : World} {c0 : Colr} {i : Nat}
/-- max of two ints. -/
theorem sMax (d : Nat) {o : Oper} {ts : Array TypeId} {x y z : Int} (r0 r1 : XA n l dt m D i) (hz : ∀ {w : World} {c : Colr} {v v' : Value}, r0.r.T V w c v → r1.r.T V w c v' → r0.r.W v = .int .i64 x ∧ r1.r.W v' = .int .i64 y) (hm : (x ≤ y ∧ z = y) ∨ (y ≤ x ∧ z = x)) (hi : nthL l i = some o := by rfl) (hop : o.op = .call { callee := .builtin .max, args := #[r0.r.opd, r1.r.opd], argTypes := ts } := by rfl) (hd : o.dst = some d := by rfl) (hA : Fs.filter (aff [] i (some d)) = [] := by rfl) (hV : V d = TyC.eq (.int .i64 z) := by rfl) (hg : Gd l n dt V i o.guard := by first | exact trivial | exact ⟨rfl, _, ⟨rfl, rfl⟩, rfl⟩) : OpStep P l dt Q n a m D CB Fs V w0 c0 i := by
  intro b f w c x o' hJ hout hF hE ho K
  obtain rfl : o = o' := Option.some.inj (hi.symm.trans ho)
  obtain ⟨v0, ev0, sv0⟩ := r0.ev hJ hout hF hE K
  obtain ⟨v1, ev1, sv1⟩ := r1.ev hJ hout hF hE K
  obtain ⟨h1, h2⟩ := hz sv0 sv1
  exact .pure (v := .int .i64 z) d (hg.wanted hJ hF hE K) hd (by rw [hA]; trivial) hJ.gi (by simp [execOp, hop, resolve, invoke, builtin, ev0.trans h1, ev1.trans h2, run_max2 _ _ _ hm, Result.andThen]) (by rw [hV]; rfl)
/-- A conversion of a known value. -/
theorem sCvk (d : Nat) {o : Oper} {src dst : TypeId} {z u : Value} (r0 : XA n l dt m D i) (hz : ∀ {w : World} {c : Colr} {v : Value}, r0.r.T V w c v → r0.r.W v = z) (L : ∀ {w : World}, (convert src dst z).run P w = .ok u w) (hi : nthL l i = some o := by rfl) (hop : o.op = .convert src dst r0.r.opd := by rfl) (hd : o.dst = some d := by rfl) (hA : Fs.filter (aff [] i (some d)) = [] := by rfl) (hV : V d = TyC.eq u := by rfl) (hg : Gd l n dt V i o.guard := by first | exact trivial | exact ⟨rfl, _, ⟨rfl, rfl⟩, rfl⟩) : OpStep P l dt Q n a m D CB Fs V w0 c0 i := by
  intro b f w c x o' hJ hout hF hE ho K
  obtain rfl : o = o' := Option.some.inj (hi.symm.trans ho)
  obtain ⟨v0, ev0, sv0⟩ := r0.ev hJ hout hF hE K
  exact .pure (v := u) d (hg.wanted hJ hF hE K) hd (by rw [hA]; trivial) hJ.gi (by simp [execOp, hop, ev0.trans (hz sv0), L, Result.andThen]) (by rw [hV]; rfl)
end
end Go.Proofs.Ytffehmfjcglalaa
