/- The lists of RandPicks: every operation keeps the invariant. -/
import Derived.Test.YtgofjkppeobjfaaB5
import Derived.Test.YtgofjkppeobjfaaPicksRegZ
namespace Go.Proofs.Ytgofjkppeobjfaa
set_option linter.unusedVariables false
set_option linter.unnecessarySimpa false
open Go.RowKit Go.Mem

theorem run_mk {P : Program} {t e : TypeId} {z : Value} {bytes : Nat} (hE : Elem P t e z bytes) (hz : z.cells = #[z]) (n : Nat) (L : Int) (hL : L = (n : Int)) (b2 : bytes * n ≤ 281474976710656) (b3 : n ≤ 9223372036854775807) (W : World) :
    (Instr.makeSlice t (.int .i64 L) (.int .i64 L)).run P W = .ok (.slice (some ⟨W.heap.size, 0, none⟩) n n) (W.alloc (.cells (madeCells #[z] n) e)) := by
  subst hL
  obtain ⟨ht, ⟨i, hi, hz0, hz1, hz2⟩, hzs⟩ := hE
  have hb' : (i.bytes : Int) * (n : Int) ≤ 281474976710656 := by
    rw [hz2]
    have h : ((bytes * n : Nat) : Int) ≤ 281474976710656 := by omega
    rwa [Int.natCast_mul] at h
  have hr := run_make (P := P) W t e i z ht hi hz0 .i64 .i64 n n (by omega) (Int.le_refl _) hb' (by omega)
  simp only [Int.toNat_natCast, hz1, Nat.mul_one] at hr
  rwa [hz] at hr
theorem own_mk {e : TypeId} (z : Value) (n : Nat) (hn : n ≤ maxLen) (W : World) (g : Nat) (hg : W.heap.size = g) : (W.alloc (.cells (madeCells #[z] n) e)).ownsRow g e 1 (.slice (some ⟨g, 0, none⟩) n n) n (List.replicate n z) := by
  subst hg
  have := World.ownsRow_lit (e := e) (size := 1) W (madeCells #[z] n) n (Nat.le_refl _) hn (by rw [size_madeCells, Nat.mul_one])
  rwa [toList_madeCells_one] at this
theorem is_rep (n : Nat) : List.replicate n (Value.int .i64 0) = is (List.replicate n 0) := by simp [is]
theorem is_rep1 (n : Nat) : is (List.replicate n 0) ++ is [1] = is (List.replicate n 0 ++ [1]) := by simp [is]
theorem ord_of {ops : Array Oper} (h : ((List.range ops.size).all fun i => ((ops[i]?).map (fun o => o.after.all fun e => decide (e.on < i))).getD true) = true) : ∀ (i : Nat) (o : Oper), ops[i]? = some o → ∀ e ∈ o.after, e.on < i := by
  intro i o ho e he
  have hi := (Array.getElem?_eq_some_iff.1 ho).1
  have h1 := List.all_eq_true.1 h i (by simpa using hi)
  rw [ho] at h1
  simp only [Option.map_some, Option.getD_some] at h1
  simpa using Array.all_eq_true_iff_forall_mem.1 h1 e he
theorem IsOp.of {ops : Array Oper} {i d : Nat} {x : Op} {deps : List Nat} (o : Oper) (ho : ops[i]? = some o) (h1 : o.op = x) (h2 : o.dst = some d) (h3 : o.guard = none) (h4 : (deps.all fun k => o.after.any fun e => Region.binds .any e && e.on == k) = true) : IsOp ops i d x deps := by
  refine ⟨o, ho, h1, h2, h3, fun k hk => ?_⟩
  have h5 := List.all_eq_true.1 h4 k hk
  obtain ⟨i, hi, h6⟩ := Array.any_eq_true.1 h5
  rw [Bool.and_eq_true] at h6
  exact ⟨o.after[i], Array.getElem_mem hi, h6.1, by simpa using h6.2⟩
theorem op_of {ops : Array Oper} {i d : Nat} {x : Op} {deps : List Nat} (h : IsOp ops i d x deps) {o : Oper} (ho : ops[i]? = some o) {b : Nat → Bool} (ha : ∀ e ∈ o.after, Region.binds .any e = true → b e.on = true) : o.op = x ∧ o.dst = some d ∧ o.guard = none ∧ ∀ k ∈ deps, b k = true := by
  obtain ⟨o', h1, h2, h3, h4, h5⟩ := h
  rw [ho] at h1
  injection h1 with h1
  subst h1
  refine ⟨h2, h3, h4, fun k hk => ?_⟩
  obtain ⟨e, he, hb, rfl⟩ := h5 k hk
  exact ha e he hb

set_option maxRecDepth 100000 in
set_option maxHeartbeats 4000000 in
theorem lists_region {ops : Array Oper} {T : Array Value} {ds : List Deferred} {Q : Exit → Act → World → Prop} {id : Nat} {w : World} (hm : Try.prog.follows .mixedOrders = true) (hord : ∀ (i : Nat) (o : Oper), ops[i]? = some o → ∀ e ∈ o.after, e.on < i) (hsz : ops.size = 13) (hT : 67 < T.size)
    (i0 : IsOp ops 0 56 (.move (.tmp 12)) []) (i1 : IsOp ops 1 57 (.move (.tmp 14)) []) (i2 : IsOp ops 2 58 (.move (.tmp 3)) []) (i3 : IsOp ops 3 59 (.call { callee := .value (.func 5), args := #[.tmp 58, .const (.int .i64 3)], argTypes := #[3, 3] }) [2])
    (i4 : IsOp ops 4 60 (.makeSlice 23 (.tmp 59) (.tmp 59)) [3]) (i5 : IsOp ops 5 61 (.move (.tmp 3)) []) (i6 : IsOp ops 6 62 (.call { callee := .value (.func 5), args := #[.tmp 61, .const (.int .i64 12)], argTypes := #[3, 3] }) [5])
    (i7 : IsOp ops 7 63 (.binOp .add 3 (.const (.int .i64 4090)) (.tmp 62) 3) [6]) (i8 : IsOp ops 8 64 (.makeSlice 23 (.tmp 63) (.tmp 63)) [7]) (i9 : IsOp ops 9 65 (.buildSlice 23 1 #[(0, .const (.int .i64 1))]) [])
    (i10 : IsOp ops 10 66 (.call { callee := .builtin .append, args := #[.tmp 64, .tmp 65], argTypes := #[23, 23] }) [8, 9]) (i11 : IsOp ops 11 67 (.buildSlice 26 4 #[(0, .tmp 56), (1, .tmp 57), (2, .tmp 60), (3, .tmp 66)]) [0, 1, 4, 10]) (i12 : IsOp ops 12 15 (.assign (.tmp 67)) [11])
    (vW vX : Value) (at_ : Int) (d3 d12 D : Nat) (hd3 : d3 ≤ 10) (hD : 4090 + d12 = D) (hd12 : d12 ≤ 20) (e12 : T.getD 12 undef = vW) (e14 : T.getD 14 undef = vX) (e3 : T.getD 3 undef = .int .i64 at_)
    (har3 : ∀ W, Calls Try.prog 5 #[.int .i64 at_, .int .i64 3] W fun e w' => e = .returned (.int .i64 d3) ∧ W = w') (har12 : ∀ W, Calls Try.prog 5 #[.int .i64 at_, .int .i64 12] W fun e w' => e = .returned (.int .i64 d12) ∧ W = w')
    (hent : ∀ args w, (callFunc 5 args).run Try.prog w = .ok (.enter 5 args) w)
    (hb1 : ∀ W, (Instr.buildSlice 23 1 #[(0, .int .i64 1)]).run Try.prog W = .ok (.slice (some ⟨W.heap.size, 0, none⟩) 1 1) (W.alloc (.cells #[.int .i64 1] 3)))
    (hb4 : ∀ W A3 A c, (Instr.buildSlice 26 4 #[(0, vW), (1, vX), (2, .slice A3 d3 d3), (3, .slice A (D + 1) c)]).run Try.prog W = .ok (.slice (some ⟨W.heap.size, 0, none⟩) 4 4) (W.alloc (.cells #[vW, vX, .slice A3 d3 d3, .slice A (D + 1) c] 23)))
    (hadd : ∀ W, (binOp .add 3 (.int .i64 4090) (.int .i64 d12)).run Try.prog W = .ok (.int .i64 D) W)
    (R : Value → World → Prop) (hR : ∀ v w w', R v w → New w w' → R v w') (hRmk : ∀ W A c g, New w W → Rd W (some ⟨g, 0, none⟩) d3 (is (List.replicate d3 0)) → Rd W A (D + 1) (is (List.replicate D 0 ++ [1])) → R (.slice (some ⟨W.heap.size, 0, none⟩) 4 4) (W.alloc (.cells #[vW, vX, .slice (some ⟨g, 0, none⟩) d3 d3, .slice A (D + 1) c] 23)))
    (hdone : ∀ f w v, f 15 = some v → R v w → (∀ i, i ∉ [15, 56, 57, 58, 59, 60, 61, 62, 63, 64, 65, 66, 67] → f i = none) → (∀ i, i ∈ [15, 56, 57, 58, 59, 60, 61, 62, 63, 64, 65, 66, 67] → f i ≠ none) → Q .normal ⟨upd T f, ds⟩ w) :
    (Code.region id ops true).wp Try.prog Q ⟨T, ds⟩ w := by
  refine region_inv hm (J10 w vW vX at_ d3 d12 D R) hord ?start ?done ?step
  case start =>
    refine ⟨(Chg.refl _ w).drew, ?_, ?_, ?_, ?_, ?_, ?_, ?_, fun _ _ => rfl, ?_, ?_, ?_, ?_, 0, 0, ?_, ?_, ?_⟩ <;> (intro h; cases h)
  case done =>
    rintro b f w' ⟨h0, h1, h2, h3, h4, h5, h6, h7, h8, h9, h10, h11, h12, g4, g8, k4, k8, k48⟩ hb
    rw [hsz] at hb
    obtain ⟨_, _, v, r, hr⟩ := h9 (hb 11 (by omega))
    obtain ⟨_, e15, _⟩ := h10 (hb 12 (by omega))
    obtain ⟨_, _, A, c, e66, _⟩ := h11 (hb 10 (by omega))
    obtain ⟨g, e65, _⟩ := h12 (hb 9 (by omega))
    refine hdone f w' v (by rw [e15, r]) hr h8 (fun i hi => ?_)
    simp only [List.mem_cons, List.not_mem_nil, or_false] at hi
    rcases hi with rfl | rfl | rfl | rfl | rfl | rfl | rfl | rfl | rfl | rfl | rfl | rfl | rfl
    · rw [e15, r]; simp
    · rw [h1 (hb 0 (by omega))]; simp
    · rw [h2 (hb 1 (by omega))]; simp
    · rw [h3 (hb 2 (by omega))]; simp
    · rw [h4 (hb 3 (by omega))]; simp
    · rw [(k4 (hb 4 (by omega))).1]; simp
    · rw [h5 (hb 5 (by omega))]; simp
    · rw [h6 (hb 6 (by omega))]; simp
    · rw [h7 (hb 7 (by omega))]; simp
    · rw [(k8 (hb 8 (by omega))).1]; simp
    · rw [e65]; simp
    · rw [e66]; simp
    · rw [r]; simp
  case step =>
    intro b f w' i o hJ ho hbi ha
    have hi : i < 13 := by rw [← hsz]; exact (Array.getElem?_eq_some_iff.1 ho).1
    have ev : ∀ t : Nat, t < 68 → (Act.mk (upd T f) ds).eval (.tmp t) = (f t).getD (T.getD t undef) := fun t ht => upd_eval T f ds t (Nat.lt_of_lt_of_le ht (by omega))
    have hf : ∀ t, t ∉ [15, 56, 57, 58, 59, 60, 61, 62, 63, 64, 65, 66, 67] → f t = none := hJ.2.2.2.2.2.2.2.2.1
    rcases (by omega : i = 0 ∨ i = 1 ∨ i = 2 ∨ i = 3 ∨ i = 4 ∨ i = 5 ∨ i = 6 ∨ i = 7 ∨ i = 8 ∨ i = 9 ∨ i = 10 ∨ i = 11 ∨ i = 12) with rfl | rfl | rfl | rfl | rfl | rfl | rfl | rfl | rfl | rfl | rfl | rfl | rfl
    · obtain ⟨p1, p2, p3, p4⟩ := op_of i0 ho ha
      obtain ⟨h0, h1, h2, h3, h4, h5, h6, h7, h8, h9, h10, h11, h12, g4, g8, k4, k8, k48⟩ := hJ
      refine ⟨p3, wp_move p1 ⟨_, rfl, ?_⟩⟩
      rw [ev 12 (by omega), hf 12 (by decide), Option.getD_none, e12]
      rw [p2]
      exact ⟨h0, fun _ => by simp [upF], by simpa [upF] using h2, by simpa [upF] using h3, by simpa [upF] using h4, by simpa [upF] using h5, by simpa [upF] using h6, by simpa [upF] using h7, fun j hj => by simp only [upF]; rw [if_neg (by rintro h; injection h with h; subst h; simp at hj)]; exact h8 j hj, by simpa [upF] using h9, by simpa [upF] using h10, by simpa [upF] using h11, by simpa [upF] using h12, g4, g8, by simpa [upF] using k4, by simpa [upF] using k8, by simpa using k48⟩
    · obtain ⟨p1, p2, p3, p4⟩ := op_of i1 ho ha
      obtain ⟨h0, h1, h2, h3, h4, h5, h6, h7, h8, h9, h10, h11, h12, g4, g8, k4, k8, k48⟩ := hJ
      refine ⟨p3, wp_move p1 ⟨_, rfl, ?_⟩⟩
      rw [ev 14 (by omega), hf 14 (by decide), Option.getD_none, e14]
      rw [p2]
      exact ⟨h0, by simpa [upF] using h1, fun _ => by simp [upF], by simpa [upF] using h3, by simpa [upF] using h4, by simpa [upF] using h5, by simpa [upF] using h6, by simpa [upF] using h7, fun j hj => by simp only [upF]; rw [if_neg (by rintro h; injection h with h; subst h; simp at hj)]; exact h8 j hj, by simpa [upF] using h9, by simpa [upF] using h10, by simpa [upF] using h11, by simpa [upF] using h12, g4, g8, by simpa [upF] using k4, by simpa [upF] using k8, by simpa using k48⟩
    · obtain ⟨p1, p2, p3, p4⟩ := op_of i2 ho ha
      obtain ⟨h0, h1, h2, h3, h4, h5, h6, h7, h8, h9, h10, h11, h12, g4, g8, k4, k8, k48⟩ := hJ
      refine ⟨p3, wp_move p1 ⟨_, rfl, ?_⟩⟩
      rw [ev 3 (by omega), hf 3 (by decide), Option.getD_none, e3]
      rw [p2]
      exact ⟨h0, by simpa [upF] using h1, by simpa [upF] using h2, fun _ => by simp [upF], by simpa [upF] using h4, by simpa [upF] using h5, by simpa [upF] using h6, by simpa [upF] using h7, fun j hj => by simp only [upF]; rw [if_neg (by rintro h; injection h with h; subst h; simp at hj)]; exact h8 j hj, by simpa [upF] using h9, by simpa [upF] using h10, by simpa [upF] using h11, by simpa [upF] using h12, g4, g8, by simpa [upF] using k4, by simpa [upF] using k8, by simpa using k48⟩
    · obtain ⟨p1, p2, p3, p4⟩ := op_of i3 ho ha
      obtain ⟨h0, h1, h2, h3, h4, h5, h6, h7, h8, h9, h10, h11, h12, g4, g8, k4, k8, k48⟩ := hJ
      refine ⟨p3, wp_call p1 rfl (hent _) ?_⟩
      have hv : (Act.mk (upd T f) ds).eval (.tmp 58) = .int .i64 at_ := by rw [ev 58 (by omega), h3 (p4 2 (by simp)), Option.getD_some]
      simp only [List.map_toArray, List.map_cons, List.map_nil, hv]
      refine (har3 w').mono ?_
      rintro e w2 ⟨rfl, rfl⟩
      refine ⟨_, rfl, _, rfl, ?_⟩
      rw [p2]
      exact ⟨h0, by simpa [upF] using h1, by simpa [upF] using h2, by simpa [upF] using h3, fun _ => by simp [upF], by simpa [upF] using h5, by simpa [upF] using h6, by simpa [upF] using h7, fun j hj => by simp only [upF]; rw [if_neg (by rintro h; injection h with h; subst h; simp at hj)]; exact h8 j hj, by simpa [upF] using h9, by simpa [upF] using h10, by simpa [upF] using h11, by simpa [upF] using h12, g4, g8, by simpa [upF] using k4, by simpa [upF] using k8, by simpa using k48⟩
    · obtain ⟨p1, p2, p3, p4⟩ := op_of i4 ho ha
      have hlt : ∀ g8 : Nat, g8 < w'.heap.size → w'.heap.size ≠ g8 := fun g h e => by omega
      have hJ' := hJ.new hR ((Chg.refl (fun _ => False) w').alloc (.cells (madeCells #[.int .i64 0] d3) 3))
      obtain ⟨h0, h1, h2, h3, h4, h5, h6, h7, h8, h9, h10, h11, h12, g4, g8, k4, k8, k48⟩ := hJ
      have hv : (Act.mk (upd T f) ds).eval (.tmp 59) = .int .i64 (d3 : Int) := by rw [ev 59 (by omega), h4 (p4 3 (by simp)), Option.getD_some]
      refine ⟨p3, wp_make p1 hv hv (run_mk elemInts rfl d3 _ rfl (by omega) (by omega) w') ⟨_, rfl, ?_⟩⟩
      rw [p2]
      have hown := own_mk (e := 3) (.int .i64 0) d3 (by simp only [maxLen]; omega) w' _ rfl
      rw [is_rep] at hown
      have hb11 : b 11 = false := by
        cases hx : b 11 with
        | false => rfl
        | true => have := (h9 hx).2.1; rw [hbi] at this; cases this
      have k8' := k8
      obtain ⟨h0, h1, h2, h3, h4, h5, h6, h7, h8, h9, h10, h11, h12, q4, q8, j4, j8, j48⟩ := hJ'
      refine ⟨h0, by simpa [upF] using h1, by simpa [upF] using h2, by simpa [upF] using h3, by simpa [upF] using h4, by simpa [upF] using h5, by simpa [upF] using h6, by simpa [upF] using h7, fun j hj => by simp only [upF]; rw [if_neg (by rintro h; injection h with h; subst h; simp at hj)]; exact h8 j hj, fun hx => by simp [hb11] at hx, by simpa [upF, hb11] using h10, by simpa [upF] using h11, by simpa [upF] using h12, w'.heap.size, g8, fun _ => ⟨by simp [upF], by simp, Rd.of_own hown⟩, ?_, fun _ hx hy => hlt g8 (k8' (by simpa using hx)).2.2.1⟩
      intro hx
      obtain ⟨r1, r2, r3, r4⟩ := k8' (by simpa using hx)
      exact ⟨by simpa [upF] using r1, r2, by simp; omega, fun hy => own_chg (r4 (by simpa using hy)) ((Chg.refl (fun _ => False) w').alloc _) (fun _ _ h => h)⟩
    · obtain ⟨p1, p2, p3, p4⟩ := op_of i5 ho ha
      obtain ⟨h0, h1, h2, h3, h4, h5, h6, h7, h8, h9, h10, h11, h12, g4, g8, k4, k8, k48⟩ := hJ
      refine ⟨p3, wp_move p1 ⟨_, rfl, ?_⟩⟩
      rw [ev 3 (by omega), hf 3 (by decide), Option.getD_none, e3]
      rw [p2]
      exact ⟨h0, by simpa [upF] using h1, by simpa [upF] using h2, by simpa [upF] using h3, by simpa [upF] using h4, fun _ => by simp [upF], by simpa [upF] using h6, by simpa [upF] using h7, fun j hj => by simp only [upF]; rw [if_neg (by rintro h; injection h with h; subst h; simp at hj)]; exact h8 j hj, by simpa [upF] using h9, by simpa [upF] using h10, by simpa [upF] using h11, by simpa [upF] using h12, g4, g8, by simpa [upF] using k4, by simpa [upF] using k8, by simpa using k48⟩
    · obtain ⟨p1, p2, p3, p4⟩ := op_of i6 ho ha
      obtain ⟨h0, h1, h2, h3, h4, h5, h6, h7, h8, h9, h10, h11, h12, g4, g8, k4, k8, k48⟩ := hJ
      refine ⟨p3, wp_call p1 rfl (hent _) ?_⟩
      have hv : (Act.mk (upd T f) ds).eval (.tmp 61) = .int .i64 at_ := by rw [ev 61 (by omega), h5 (p4 5 (by simp)), Option.getD_some]
      simp only [List.map_toArray, List.map_cons, List.map_nil, hv]
      refine (har12 w').mono ?_
      rintro e w2 ⟨rfl, rfl⟩
      refine ⟨_, rfl, _, rfl, ?_⟩
      rw [p2]
      exact ⟨h0, by simpa [upF] using h1, by simpa [upF] using h2, by simpa [upF] using h3, by simpa [upF] using h4, by simpa [upF] using h5, fun _ => by simp [upF], by simpa [upF] using h7, fun j hj => by simp only [upF]; rw [if_neg (by rintro h; injection h with h; subst h; simp at hj)]; exact h8 j hj, by simpa [upF] using h9, by simpa [upF] using h10, by simpa [upF] using h11, by simpa [upF] using h12, g4, g8, by simpa [upF] using k4, by simpa [upF] using k8, by simpa using k48⟩
    · obtain ⟨p1, p2, p3, p4⟩ := op_of i7 ho ha
      obtain ⟨h0, h1, h2, h3, h4, h5, h6, h7, h8, h9, h10, h11, h12, g4, g8, k4, k8, k48⟩ := hJ
      have hv : (Act.mk (upd T f) ds).eval (.tmp 62) = .int .i64 (d12 : Int) := by rw [ev 62 (by omega), h6 (p4 6 (by simp)), Option.getD_some]
      refine ⟨p3, wp_add p1 rfl hv (hadd w') ⟨_, rfl, ?_⟩⟩
      rw [p2]
      exact ⟨h0, by simpa [upF] using h1, by simpa [upF] using h2, by simpa [upF] using h3, by simpa [upF] using h4, by simpa [upF] using h5, by simpa [upF] using h6, fun _ => by simp [upF], fun j hj => by simp only [upF]; rw [if_neg (by rintro h; injection h with h; subst h; simp at hj)]; exact h8 j hj, by simpa [upF] using h9, by simpa [upF] using h10, by simpa [upF] using h11, by simpa [upF] using h12, g4, g8, by simpa [upF] using k4, by simpa [upF] using k8, by simpa using k48⟩
    · obtain ⟨p1, p2, p3, p4⟩ := op_of i8 ho ha
      have hJ' := hJ.new hR ((Chg.refl (fun _ => False) w').alloc (.cells (madeCells #[.int .i64 0] D) 3))
      obtain ⟨h0, h1, h2, h3, h4, h5, h6, h7, h8, h9, h10, h11, h12, g4, g8, k4, k8, k48⟩ := hJ
      have hv : (Act.mk (upd T f) ds).eval (.tmp 63) = .int .i64 (D : Int) := by rw [ev 63 (by omega), h7 (p4 7 (by simp)), Option.getD_some]
      refine ⟨p3, wp_make p1 hv hv (run_mk elemInts rfl D _ rfl (by omega) (by omega) w') ⟨_, rfl, ?_⟩⟩
      rw [p2]
      have hown := own_mk (e := 3) (.int .i64 0) D (by simp only [maxLen]; omega) w' _ rfl
      rw [is_rep] at hown
      have hb10 : b 10 = false := by
        cases hx : b 10 with
        | false => rfl
        | true => have := (h11 hx).1; rw [hbi] at this; cases this
      have hb11 : b 11 = false := by
        cases hx : b 11 with
        | false => rfl
        | true => have := (h9 hx).1; rw [hb10] at this; cases this
      have k4' := k4
      have hw0 := h0.size
      obtain ⟨h0, h1, h2, h3, h4, h5, h6, h7, h8, h9, h10, h11, h12, q4, q8, j4, j8, j48⟩ := hJ'
      refine ⟨h0, by simpa [upF] using h1, by simpa [upF] using h2, by simpa [upF] using h3, by simpa [upF] using h4, by simpa [upF] using h5, by simpa [upF] using h6, by simpa [upF] using h7, fun j hj => by simp only [upF]; rw [if_neg (by rintro h; injection h with h; subst h; simp at hj)]; exact h8 j hj, by simpa [upF, hb11] using h9, by simpa [upF, hb11] using h10, fun hx => by simp [hb10] at hx, by simpa [upF] using h12, g4, w'.heap.size, ?_, fun _ => ⟨by simp [upF], hw0, by simp, fun _ => own_base hown hw0⟩, fun hx _ hy => by have := (k4' (by simpa using hx)).2.1; omega⟩
      intro hx
      obtain ⟨r1, r2, r3⟩ := k4' (by simpa using hx)
      exact ⟨by simpa [upF] using r1, by simp; omega, r3.new ((Chg.refl (fun _ => False) w').alloc _)⟩
    · obtain ⟨p1, p2, p3, p4⟩ := op_of i9 ho ha
      have hJ' := hJ.new hR ((Chg.refl (fun _ => False) w').alloc (.cells #[.int .i64 1] 3))
      obtain ⟨h0, h1, h2, h3, h4, h5, h6, h7, h8, h9, h10, h11, h12, g4, g8, k4, k8, k48⟩ := hJ'
      refine ⟨p3, wp_lit (vs := #[(0, .int .i64 1)]) p1 (by simp only [List.map_toArray, List.map_cons, List.map_nil]; rfl) (hb1 w') ⟨_, rfl, ?_⟩⟩
      rw [p2]
      have hb10 : b 10 = false := by
        cases hx : b 10 with
        | false => rfl
        | true => have := (h11 hx).2.1; rw [hbi] at this; cases this
      have hb11 : b 11 = false := by
        cases hx : b 11 with
        | false => rfl
        | true => have := (h9 hx).1; rw [hb10] at this; cases this
      exact ⟨h0, by simpa [upF] using h1, by simpa [upF] using h2, by simpa [upF] using h3, by simpa [upF] using h4, by simpa [upF] using h5, by simpa [upF] using h6, by simpa [upF] using h7, fun j hj => by simp only [upF]; rw [if_neg (by rintro h; injection h with h; subst h; simp at hj)]; exact h8 j hj, by simpa [upF, hb11] using h9, by simpa [upF, hb11] using h10, fun hx => by simp [hb10] at hx, fun _ => ⟨w'.heap.size, by simp [upF], fun _ => Rd.lit (is [1]) rfl⟩, g4, g8, by simpa [upF] using k4, by simpa [upF] using k8, by simpa using k48⟩
    · obtain ⟨p1, p2, p3, p4⟩ := op_of i10 ho ha
      obtain ⟨h0, h1, h2, h3, h4, h5, h6, h7, h8, h9, h10, h11, h12, g4, g8, k4, k8, k48⟩ := hJ
      obtain ⟨r1, r2, r3, r4⟩ := k8 (p4 8 (by simp))
      obtain ⟨g, s1, s2⟩ := h12 (p4 9 (by simp))
      have hv : (Act.mk (upd T f) ds).eval (.tmp 64) = .slice (some ⟨g8, 0, none⟩) D D := by rw [ev 64 (by omega), r1, Option.getD_some]
      have hu : (Act.mk (upd T f) ds).eval (.tmp 65) = .slice (some ⟨g, 0, none⟩) 1 1 := by rw [ev 65 (by omega), s1, Option.getD_some]
      refine ⟨p3, wp_app elemInts p1 hv (r4 hbi) hu (s2 hbi) (is_one _) (by simp only [maxLen]; omega) (by omega) h0.size ?_⟩
      intro A' c' w2 hown hg
      refine ⟨_, rfl, ?_⟩
      rw [p2]
      rw [is_rep1] at hown
      have hch : Chg (fun k => k = g8) w' w2 := (Chg.refl _ w').grown hg (fun k hk _ => by simp [blk] at hk; exact hk.symm)
      have hb11 : b 11 = false := by
        cases hx : b 11 with
        | false => rfl
        | true => have := (h9 hx).1; rw [hbi] at this; cases this
      refine ⟨h0.trans hch (fun k hk e => by omega), by simpa [upF] using h1, by simpa [upF] using h2, by simpa [upF] using h3, by simpa [upF] using h4, by simpa [upF] using h5, by simpa [upF] using h6, by simpa [upF] using h7, fun j hj => by simp only [upF]; rw [if_neg (by rintro h; injection h with h; subst h; simp at hj)]; exact h8 j hj, fun hx => by simp [hb11] at hx, by simpa [upF, hb11] using h10, fun _ => ⟨by simpa using p4 8 (by simp), by simpa using p4 9 (by simp), A', c', by simp [upF], Rd.of_own hown⟩, fun _ => ⟨g, by simpa [upF] using s1, fun hx => by simp at hx⟩, g4, g8, ?_, fun _ => ⟨by simpa [upF] using r1, r2, Nat.lt_of_lt_of_le r3 hch.size, fun hx => by simp at hx⟩, fun _ _ hx => by simp at hx⟩
      intro hx
      have hx' : b 4 = true := by simpa using hx
      obtain ⟨t1, t2, t3⟩ := k4 hx'
      exact ⟨by simpa [upF] using t1, Nat.lt_of_lt_of_le t2 hch.size, t3.chg hch (fun k hk _ e => by simp [blk] at hk; have := k48 hx' (p4 8 (by simp)) hbi; omega)⟩
    · obtain ⟨p1, p2, p3, p4⟩ := op_of i11 ho ha
      have hJ0 := hJ
      obtain ⟨h0, h1, h2, h3, h4, h5, h6, h7, h8, h9, h10, h11, h12, g4, g8, k4, k8, k48⟩ := hJ
      obtain ⟨r1, r2, r3⟩ := k4 (p4 4 (by simp))
      obtain ⟨_, _, A, c, s1, s2⟩ := h11 (p4 10 (by simp))
      have v0 : (Act.mk (upd T f) ds).eval (.tmp 56) = vW := by rw [ev 56 (by omega), h1 (p4 0 (by simp)), Option.getD_some]
      have v1 : (Act.mk (upd T f) ds).eval (.tmp 57) = vX := by rw [ev 57 (by omega), h2 (p4 1 (by simp)), Option.getD_some]
      have v2 : (Act.mk (upd T f) ds).eval (.tmp 60) = .slice (some ⟨g4, 0, none⟩) d3 d3 := by rw [ev 60 (by omega), r1, Option.getD_some]
      have v3 : (Act.mk (upd T f) ds).eval (.tmp 66) = .slice A (D + 1) c := by rw [ev 66 (by omega), s1, Option.getD_some]
      have hrun := hb4 w' (some ⟨g4, 0, none⟩) A c
      refine ⟨p3, wp_lit p1 (by simp only [List.map_toArray, List.map_cons, List.map_nil, v0, v1, v2, v3]) hrun ⟨_, rfl, ?_⟩⟩
      rw [p2]
      have hRv := hRmk w' A c g4 h0 r3 s2
      obtain ⟨h0, h1, h2, h3, h4, h5, h6, h7, h8, h9, h10, h11, h12, g4, g8, k4, k8, k48⟩ := hJ0.new hR ((Chg.refl (fun _ => False) w').alloc (.cells #[vW, vX, .slice (some ⟨g4, 0, none⟩) d3 d3, .slice A (D + 1) c] 23))
      have hb12 : b 12 = false := by
        cases hx : b 12 with
        | false => rfl
        | true => have := (h10 hx).1; rw [hbi] at this; cases this
      exact ⟨h0, by simpa [upF] using h1, by simpa [upF] using h2, by simpa [upF] using h3, by simpa [upF] using h4, by simpa [upF] using h5, by simpa [upF] using h6, by simpa [upF] using h7, fun j hj => by simp only [upF]; rw [if_neg (by rintro h; injection h with h; subst h; simp at hj)]; exact h8 j hj, fun _ => ⟨by simpa using p4 10 (by simp), by simpa using p4 4 (by simp), _, by simp [upF], hRv⟩, fun hx => by simp [hb12] at hx, by simpa [upF] using h11, by simpa [upF] using h12, g4, g8, by simpa [upF] using k4, by simpa [upF] using k8, by simpa using k48⟩
    · obtain ⟨p1, p2, p3, p4⟩ := op_of i12 ho ha
      obtain ⟨h0, h1, h2, h3, h4, h5, h6, h7, h8, h9, h10, h11, h12, g4, g8, k4, k8, k48⟩ := hJ
      obtain ⟨_, _, v, s1, s2⟩ := h9 (p4 11 (by simp))
      refine ⟨p3, wp_assign p1 ⟨_, rfl, ?_⟩⟩
      rw [p2, ev 67 (by omega), s1, Option.getD_some]
      exact ⟨h0, by simpa [upF] using h1, by simpa [upF] using h2, by simpa [upF] using h3, by simpa [upF] using h4, by simpa [upF] using h5, by simpa [upF] using h6, by simpa [upF] using h7, fun j hj => by simp only [upF]; rw [if_neg (by rintro h; injection h with h; subst h; simp at hj)]; exact h8 j hj, by simpa [upF] using h9, fun _ => ⟨by simpa using p4 11 (by simp), by simp [upF, s1], by simp [upF]⟩, by simpa [upF] using h11, by simpa [upF] using h12, g4, g8, by simpa [upF] using k4, by simpa [upF] using k8, by simpa using k48⟩
end Go.Proofs.Ytgofjkppeobjfaa
