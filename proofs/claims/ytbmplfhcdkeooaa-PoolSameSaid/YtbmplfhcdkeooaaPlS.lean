/- The steps of PoolSame. -/
import Derived.Test.YtbmplfhcdkeooaaPlR
namespace Go.Proofs.Ytbmplfhcdkeooaa
set_option linter.unusedVariables false
open Go.RowKit Go.Mem Go.Pl

/-- A reply that a worker may give: to a task of J, as its bytes say. -/
def RepOk (J : List (Int × List UInt8)) (d : Int × Ans) : Prop := (∃ b, (d.1, b) ∈ J ∧ d.2.body = resB b) ∧ 0 ≤ d.2.num ∧ d.2.num ≤ 1000
def LateOk (J : List (Int × List UInt8)) (ds : List (Int × Ans)) : Prop := ∀ d ∈ ds, RepOk J d
/-- The pool within the loop of PoolSame: at most N tries, the tick at most T; beside it the replies ds. -/
def LS (w : World) (g : Nat) (J : List (Int × List UInt8)) (nw : Nat) (lim : Int) (T N : Nat) (v : Value) (ds : List (Int × Ans)) (wr : World) : Prop :=
  ∃ s O Z, Sm J resB nw lim s ∧ s.tick ≤ (T : Int) ∧ s.tries.length ≤ N ∧ P2 w wr O Z g s ∧ LateV wr Z v ds ∧ LateOk J ds ∧ ∀ k, v.ownBlock = some k → w.heap.size ≤ k
section
variable {w w1 : World} {g nw T T' N : Nat} {J : List (Int × List UInt8)} {lim : Int} {v : Value} {ds : List (Int × Ans)}
theorem LS.was (h : LS w g J nw lim T N v ds w1) : New w w1 := by
  obtain ⟨s, O, Z, h1, h2, h3, h4, _⟩ := h
  exact h4.was
theorem LS.new {w2 : World} (h : LS w g J nw lim T N v ds w1) (hn : New w1 w2) : LS w g J nw lim T N v ds w2 := by
  obtain ⟨s, O, Z, h1, h2, h3, h4, h5, h6, h7⟩ := h
  exact ⟨s, O, Z, h1, h2, h3, h4.new hn, h5.new hn, h6, h7⟩
theorem LS.up {N' : Nat} (h : LS w g J nw lim T N v ds w1) (hT : T ≤ T') (hN : N ≤ N') : LS w g J nw lim T' N' v ds w1 := by
  obtain ⟨s, O, Z, h1, h2, h3, h4, h5, h6, h7⟩ := h
  exact ⟨s, O, Z, h1, by omega, by omega, h4, h5, h6, h7⟩
theorem LS.die (h : LS w g J nw lim T N v ds w1) (worker : Int) : Calls Try.prog 24 #[.pointer (some ⟨g, 0, none⟩), .int .i64 worker, .int .i64 (T : Int)] w1 fun e w' => (∃ r, e = .returned (.int .i64 r)) ∧ LS w g J nw lim T N v ds w' := by
  obtain ⟨s, O, Z, h1, h2, h3, h4, h5, h6, h7⟩ := h
  refine (p2Die h4 worker (T : Int)).mono ?_
  rintro e w' ⟨rfl, q1, q2⟩
  obtain ⟨d1, d2, d3⟩ := h1.die worker (T : Int)
  exact ⟨⟨_, rfl⟩, _, _, _, d1, by omega, by omega, q1, q2.late h5, h6, h7⟩
theorem LS.revive (h : LS w g J nw lim T N v ds w1) (worker : Int) : Calls Try.prog 26 #[.pointer (some ⟨g, 0, none⟩), .int .i64 worker] w1 fun e w' => (∃ r, e = .returned (.int .i64 r)) ∧ LS w g J nw lim T N v ds w' := by
  obtain ⟨s, O, Z, h1, h2, h3, h4, h5, h6, h7⟩ := h
  refine (p2Revive h4 worker).mono ?_
  rintro e w' ⟨rfl, O', Z', q1, q2⟩
  obtain ⟨d1, d2, d3⟩ := h1.revive worker
  exact ⟨⟨_, rfl⟩, _, _, _, d1, by omega, by rw [d2]; exact h3, q1, q2.late h5, h6, h7⟩
theorem LS.ask (h : LS w g J nw lim T N v ds w1) (worker : Int) (hN : N ≤ 500) : Calls Try.prog 14 #[.pointer (some ⟨g, 0, none⟩), .int .i64 worker, .int .i64 (T : Int)] w1 fun e w' => ∃ A n c id num is err body, e = .returned (.tuple #[.agg #[.int .i64 id, .slice A n c], .int .i64 num, .bool is, .int .i64 err]) ∧
    n = body.length ∧ Rd w' A n (bs body) ∧ (∀ k, Go.Mem.blk A = some k → k < w'.heap.size) ∧ n ≤ 65536 ∧ (is = true → RepOk J (id, ⟨worker, num, resB body⟩)) ∧ LS w g J nw lim T (N + 1) v ds w' := by
  obtain ⟨s, O, Z, h1, h2, h3, h4, h5, h6, h7⟩ := h
  refine (p2Ask h4 worker (T : Int) (by omega)).mono ?_
  rintro e w' ⟨A, c, rfl, ⟨A', c', hv, r1, r2, r3, r4⟩, O', Z', q1, q2⟩
  injection hv with hA hn hc
  subst hA hc
  obtain ⟨d1, d2, d3, d4⟩ := h1.ask worker (T : Int) (by omega)
  have hbl : (Pl.ask s worker (T : Int)).2.body.length ≤ 65536 := by
    by_cases hc : check s worker (T : Int) = 0
    · cases ha : s.alive.getD worker.toNat false with
      | false => rw [ask_dead hc ha]; simp
      | true =>
        cases h3 : works s worker (T : Int) with
        | true => rw [ask_busy hc ha h3]; simp
        | false =>
          cases h4 : next s (T : Int) with
          | none => rw [ask_none hc ha h3 h4]; simp
          | some k =>
            obtain ⟨j, hj, _⟩ := next_some h4
            rw [ask_some hc ha h3 h4 hj]
            exact h1.wf.bl j (List.mem_of_getElem? hj)
    · rw [ask_bad hc]; simp
  exact ⟨A, _, c, _, _, _, _, _, rfl, rfl, r1, fun k hk => (r4 k hk).1, hbl, fun hi => ⟨⟨_, (d4 hi).1, rfl⟩, (d4 hi).2⟩, _, _, _, d1, by omega, by omega, q1, q2.late h5, h6, h7⟩
theorem RepOk.i64 (hJ : ∀ p ∈ J, Go.Mem.I64 p.1) {d : Int × Ans} (h : RepOk J d) : Go.Mem.I64 d.1 ∧ Go.Mem.I64 d.2.num ∧ d.2.body.length ≤ 10 := by
  obtain ⟨⟨b, h1, h2⟩, h3, h4⟩ := h
  exact ⟨hJ _ h1, by unfold Go.Mem.I64; omega, by rw [h2]; exact resB_len b⟩
theorem LS.low (h : LS w g J nw lim T N v ds w1) : ∀ k, v.ownBlock = some k → k < w1.heap.size := by
  obtain ⟨s, O, Z, h1, h2, h3, h4, h5, h6, h7⟩ := h
  exact fun k hk => h5.lt hk
/-- The answer of the reply at j. -/
theorem LS.ans (h : LS w g J nw lim T N v ds w1) (hJ : ∀ p ∈ J, Go.Mem.I64 p.1) {j : Nat} {d : Int × Ans} (hj : ds[j]? = some d) : ∃ ga c A n ca, v = .slice (some ⟨ga, 0, none⟩) ds.length c ∧ w1.cell? ⟨ga, j * 4, none⟩ = some (.int .i64 d.1) ∧ w1.cell? ⟨ga, j * 4 + 1, none⟩ = some (.int .i64 d.2.worker) ∧ w1.cell? ⟨ga, j * 4 + 2, none⟩ = some (.int .i64 d.2.num) ∧ w1.cell? ⟨ga, j * 4 + 3, none⟩ = some (.slice A n ca) ∧
    Calls Try.prog 15 #[.pointer (some ⟨g, 0, none⟩), .agg #[.int .i64 d.1, .int .i64 d.2.worker, .int .i64 d.2.num, .slice A n ca], .int .i64 (T : Int)] w1 fun e w' => (∃ b r, e = .returned (.tuple #[.bool b, .int .i64 r])) ∧ LS w g J nw lim T N v ds w' := by
  obtain ⟨s, O, Z, h1, h2, h3, h4, h5, h6, h7⟩ := h
  obtain ⟨ga, c, A, ca, hv, c0, c1, c2, c3, hr, hz⟩ := h5.at_ hj
  have hok := h6 d (List.mem_of_getElem? hj)
  obtain ⟨i1, i2, i3⟩ := hok.i64 hJ
  refine ⟨ga, c, A, _, ca, hv, c0, c1, c2, c3, (p2Answer h4 d.1 d.2.worker d.2.num (T : Int) i1 i2 A _ ca d.2.body hr (by omega) (fun k hk => (hz k hk).2)).mono ?_⟩
  rintro e w' ⟨rfl, O', Z', q1, q2⟩
  obtain ⟨d1, d2, d3⟩ := h1.answer d.1 d.2.worker d.2.num d.2.body (T : Int) (by unfold Go.Mem.I64 at i2; omega) hok.1
  exact ⟨⟨_, _, rfl⟩, _, _, _, d1, by omega, by rw [d2]; exact h3, q1, q2.late h5, h6, h7⟩
/-- One more reply. -/
theorem LS.app (h : LS w g J nw lim T N v ds w1) {gb : Nat} {d : Int × Ans} (hd : RepOk J d) {A : Option Addr} {n c : Nat} {w2 w3 : World} (hw2 : New w1 w2) (hn : n = d.2.body.length) (ho : w2.ownsRow w1.heap.size 5 1 (.slice A n c) n (bs d.2.body)) (hw3 : w3 = w2.alloc (.cells #[.int .i64 d.1, .int .i64 d.2.worker, .int .i64 d.2.num, .slice A n c] 38)) (hgb : gb = w2.heap.size) (hl : ds.length ≤ 2000) :
    ∃ v' w', (Builtin.append_ #[59, 59] 59 #[v, .slice (some ⟨gb, 0, none⟩) 1 1]).run Try.prog w3 = .ok v' w' ∧ LS w g J nw lim T N v' (ds ++ [d]) w' ∧ Chg (fun k => v.ownBlock = some k) w3 w' ∧ ∃ A' c', v' = .slice A' (ds.length + 1) c' := by
  have hn3 : New w1 w3 := by rw [hw3]; exact hw2.alloc _
  obtain ⟨s, O, Z, h1, h2, h3, h4, h5, h6, h7⟩ := h
  have h43 := h4.new hn3
  have h53 := h5.new hn3
  have hb : Blk w3 gb 38 #[.int .i64 d.1, .int .i64 d.2.worker, .int .i64 d.2.num, .slice A n c] := by rw [hw3, hgb]; exact Blk.new _ _ _
  subst hn
  have hz : ∀ k, Go.Mem.blk A = some k → w1.heap.size ≤ k ∧ k < w2.heap.size := fun k hk => own_blk_le ho hk
  have h23 : New w2 w3 := by rw [hw3]; exact (Chg.refl _ _).alloc _
  obtain ⟨v', w', r1, r2, r3, r4⟩ := h53.app (d := d) (cl := [.int .i64 d.1, .int .i64 d.2.worker, .int .i64 d.2.num, .slice A d.2.body.length c]) (gb := gb) (fun k hk => h43.lt hk)
    ⟨_, rfl, A, c, rfl, (Rd.of_own ho).new h23, (own_cap ho).1, (own_cap ho).2, fun k hk => ⟨Nat.lt_of_lt_of_le (hz k hk).2 h23.size, fun hZ => by have := h4.lt hZ; have := (hz k hk).1; omega, fun e => by have := h5.lt e; have := (hz k hk).1; omega⟩⟩
    (fun j u hu => hb.cell j (by simpa using hu)) hl
  obtain ⟨As, cs, hsh, _⟩ := r2.shape
  rw [List.length_append, List.length_singleton] at hsh
  refine ⟨v', w', r1, ⟨s, O, Z, h1, h2, h3, h43.chg r3 (fun k hk => h7 k hk) (fun k hk e => ?_), r2, fun x hx => ?_, fun k hk => ?_⟩, r3, As, cs, hsh⟩
  · obtain ⟨css, _, _, _, q⟩ := h53
    exact q k e hk
  · rcases List.mem_append.1 hx with hx | hx
    · exact h6 x hx
    · rw [List.mem_singleton] at hx
      rw [hx]; exact hd
  · rcases r4 k hk with e | e
    · exact h7 k e
    · have := h43.was.size; omega
/-- The end of PoolSame: i rounds are done. -/
def FnS (w : World) (g : Nat) (J : List (Int × List UInt8)) (nw : Nat) (lim : Int) (i T : Nat) (wr : World) : Prop := ∃ s O Z, Fin J resB nw lim i (T : Int) s ∧ P2 w wr O Z g s
/-- The answer that ends a round. -/
def FM (w : World) (g : Nat) (J : List (Int × List UInt8)) (nw : Nat) (lim : Int) (i T : Nat) (id num : Int) (body : List UInt8) (wr : World) : Prop := ∃ s O Z, Fin J resB nw lim i (T : Int) (Pl.answer s id 0 num (resB body) (T : Int)).1 ∧ P2 w wr O Z g s
theorem FnS.was {i : Nat} (h : FnS w g J nw lim i T w1) : New w w1 := by
  obtain ⟨s, O, Z, _, h⟩ := h
  exact h.was
theorem FnS.new {i : Nat} {w2 : World} (h : FnS w g J nw lim i T w1) (hn : New w1 w2) : FnS w g J nw lim i T w2 := by
  obtain ⟨s, O, Z, h1, h2⟩ := h
  exact ⟨s, O, Z, h1, h2.new hn⟩
theorem cnt_le (l : List Job) : cnt l ≤ l.length := List.length_filter_le _ _
theorem LS.fin (h : LS w g J nw lim T N v ds w1) (hn : 1 ≤ nw) (hJ : J.length ≤ 10) (hN : N ≤ 40) : Calls Try.prog 26 #[.pointer (some ⟨g, 0, none⟩), .int .i64 0] w1 fun e w' => (∃ r, e = .returned (.int .i64 r)) ∧ FnS w g J nw lim 0 T w' := by
  obtain ⟨s, O, Z, h1, h2, h3, h4, h5, h6, h7⟩ := h
  refine (p2Revive h4 0).mono ?_
  rintro e w' ⟨rfl, O', Z', q1, q2⟩
  obtain ⟨d1, d2, d3⟩ := h1.revive 0
  refine ⟨⟨_, rfl⟩, _, _, _, ⟨d1, revive_zero h1 hn, by omega, ?_, by rw [d2]; omega⟩, q1⟩
  have h8 := cnt_le (Pl.revive s 0).1.jobs
  have h9 := congrArg List.length d1.jobs
  rw [List.length_map] at h9
  omega
theorem FnS.ask {i : Nat} (h : FnS w g J nw lim i T w1) (hn : 1 ≤ nw) (hn8 : nw ≤ 8) (hl : lim ≤ 6) (hT : T ≤ 1000) (hi : i < 12) : Calls Try.prog 14 #[.pointer (some ⟨g, 0, none⟩), .int .i64 0, .int .i64 ((T : Int) + 7)] w1 fun e w' => ∃ A n c id num is body, e = .returned (.tuple #[.agg #[.int .i64 id, .slice A n c], .int .i64 num, .bool is, .int .i64 0]) ∧
    n = body.length ∧ Rd w' A n (bs body) ∧ (∀ k, Go.Mem.blk A = some k → k < w'.heap.size) ∧ n ≤ 65536 ∧ New w w' ∧ ((is = false ∧ FnS w g J nw lim (i + 1) (T + 7) w') ∨ (is = true ∧ RepOk J (id, ⟨0, num, resB body⟩) ∧ FM w g J nw lim (i + 1) (T + 7) id num body w')) := by
  obtain ⟨s, O, Z, h1, h4⟩ := h
  have ht := h1.trl
  refine (p2Ask h4 0 ((T : Int) + 7) (by omega)).mono ?_
  rintro e w' ⟨A, c, rfl, ⟨A', c', hv, r1, r2, r3, r4⟩, O', Z', q1, q2⟩
  injection hv with hA hm hc
  subst hA hc
  have hbl : (Pl.ask s 0 ((T : Int) + 7)).2.body.length ≤ 65536 := by
    by_cases hc : check s 0 ((T : Int) + 7) = 0
    · cases ha : s.alive.getD (0 : Int).toNat false with
      | false => rw [ask_dead hc ha]; simp
      | true =>
        cases h3 : works s 0 ((T : Int) + 7) with
        | true => rw [ask_busy hc ha h3]; simp
        | false =>
          cases h4 : next s ((T : Int) + 7) with
          | none => rw [ask_none hc ha h3 h4]; simp
          | some k =>
            obtain ⟨j, hj, _⟩ := next_some h4
            rw [ask_some hc ha h3 h4 hj]
            exact h1.sm.wf.bl j (List.mem_of_getElem? hj)
    · rw [ask_bad hc]; simp
  obtain ⟨s1, s2⟩ := h1.step hn hn8 hl (by omega) hi (fun p hp => Nat.le_trans (resB_len _) (by omega))
  refine ⟨A, _, c, _, _, _, _, by rw [s1], rfl, r1, fun k hk => (r4 k hk).1, hbl, q1.was, ?_⟩
  rcases s2 with ⟨e1, e2⟩ | ⟨e1, e2, e3, e4⟩
  · exact .inl ⟨e1, _, _, _, by have := e2; simpa using this, q1⟩
  · exact .inr ⟨e1, ⟨⟨_, e2, rfl⟩, e3⟩, _, _, _, by have := e4; simpa using this, q1⟩
theorem FM.ans {i : Nat} {id num : Int} {body : List UInt8} (hJ : ∀ p ∈ J, Go.Mem.I64 p.1) {w2 : World} (h : FM w g J nw lim i T id num body w1) (hok : RepOk J (id, ⟨0, num, resB body⟩)) {A : Option Addr} {n c : Nat} (hw2 : New w1 w2) (hn : n = (resB body).length) (ho : w2.ownsRow w1.heap.size 5 1 (.slice A n c) n (bs (resB body))) :
    Calls Try.prog 15 #[.pointer (some ⟨g, 0, none⟩), .agg #[.int .i64 id, .int .i64 0, .int .i64 num, .slice A n c], .int .i64 (T : Int)] w2 fun e w' => (∃ b r, e = .returned (.tuple #[.bool b, .int .i64 r])) ∧ FnS w g J nw lim i T w' ∧ ∀ b t cs, w1.heap.size ≤ b → Blk w2 b t cs → Blk w' b t cs := by
  obtain ⟨s, O, Z, h1, h4⟩ := h
  subst hn
  obtain ⟨i1, i2, i3⟩ := hok.i64 hJ
  have hb := resB_len body
  refine (p2Answer (h4.new hw2) id 0 num (T : Int) i1 i2 A _ c (resB body) (Rd.of_own ho) (by omega) (fun k hk hz => by have := h4.lt hz; have := (own_blk_le ho hk).1; omega)).mono ?_
  rintro e w' ⟨rfl, O', Z', q1, q2⟩
  exact ⟨⟨_, _, rfl⟩, ⟨_, _, _, h1, q1⟩, fun b t cs hb hk => hk.chg q2.chg (fun ho => by have := h4.lt (q2.sub b ho); omega)⟩
theorem RepsV.late {lo : Nat} (h : RepsV w1 lo v ds) : LateV w1 (fun _ => False) v ds := by
  obtain ⟨css, h1, h2, h3⟩ := h
  refine ⟨css, ownN_base h1 (Nat.zero_le _), h2, fun j d hd => ?_, fun _ _ h => h⟩
  obtain ⟨cs, q1, q2⟩ := h3 j d hd
  exact ⟨cs, q1, q2.chg (Chg.refl (fun _ => False) _) (fun _ _ _ h => h) (fun k _ hk => ⟨fun h => h, hk.2⟩)⟩
/-- What Done and Open return in the end. -/
theorem FnS.done (h : FnS w g J nw lim 12 T w1) : ∃ ds : List (Int × Ans), ds.length = J.length ∧ (∀ (i : Nat) (p : Int × List UInt8), J[i]? = some p → ∃ a : Ans, ds[i]? = some (p.1, a) ∧ a.body = resB p.2) ∧ (Calls Try.prog 28 #[.pointer (some ⟨g, 0, none⟩)] w1 fun e w' => ∃ A c, e = .returned (.slice A ds.length c) ∧ LateV w' (fun _ => False) (.slice A ds.length c) ds ∧ FnS w g J nw lim 12 T w' ∧ New w1 w') := by
  obtain ⟨s, O, Z, h1, h4⟩ := h
  obtain ⟨d1, d2, d3⟩ := h1.done
  refine ⟨dones s, d2, d3, (p2Done h4).mono ?_⟩
  rintro e w' ⟨A, c, rfl, q1, q2, q3⟩
  exact ⟨A, c, rfl, q1.late, ⟨s, O, Z, h1, q2⟩, q3⟩
theorem FnS.open (h : FnS w g J nw lim 12 T w1) : Calls Try.prog 13 #[.pointer (some ⟨g, 0, none⟩)] w1 fun e w' => ∃ A c, e = .returned (.slice A 0 c) ∧ New w1 w' := by
  obtain ⟨s, O, Z, h1, h4⟩ := h
  obtain ⟨d1, d2, d3⟩ := h1.done
  refine (p2Open h4).mono ?_
  rintro e w' ⟨A, c, rfl, q1, q2, q3⟩
  rw [d1]
  exact ⟨A, c, rfl, q3⟩
/-! ### the tasks are added -/
def AS (w : World) (g : Nat) (b : Nat → List UInt8) (nw : Nat) (lim : Int) (i : Nat) (wr : World) : Prop := ∃ s O Z, Adds b nw lim i s ∧ P2 w wr O Z g s
theorem AS.add {b : Nat → List UInt8} {i : Nat} (h : AS w g b nw lim i w1) (hi : i < 1000) (hb : (b i).length ≤ 10) {w2 : World} (hn : New w1 w2) {A : Option Addr} {n c : Nat} (hr : Rd w2 A n (bs (b i))) : Calls Try.prog 12 #[.pointer (some ⟨g, 0, none⟩), .agg #[.int .i64 (3 * (i : Int)), .slice A n c]] w2 fun e w' => e = .returned (.int .i64 0) ∧ AS w g b nw lim (i + 1) w' := by
  obtain ⟨s, O, Z, h1, h4⟩ := h
  have hl : (b i).length = n := by simpa using hr.len
  obtain ⟨a1, a2⟩ := h1.add hi (by omega)
  refine (p2Add (h4.new hn) (3 * (i : Int)) (by unfold Go.Mem.I64; omega) A n c (b i) hr (by omega)).mono ?_
  rintro e w' ⟨rfl, O', Z', q1, q2⟩
  rw [a1]
  exact ⟨rfl, _, _, _, a2, q1⟩
theorem AS.late {b : Nat → List UInt8} {i : Nat} (h : AS w g b nw lim i w1) : LS w g (tasks b i) nw lim 0 0 (.slice none 0 0) [] w1 := by
  obtain ⟨s, O, Z, h1, h4⟩ := h
  exact ⟨s, O, Z, h1.sm resB, by rw [h1.tk]; exact Int.le_refl _, by rw [h1.tr]; simp, h4, LateV.nil _ _, fun d hd => by simp at hd, fun k hk => by cases hk⟩
end
end Go.Proofs.Ytbmplfhcdkeooaa
