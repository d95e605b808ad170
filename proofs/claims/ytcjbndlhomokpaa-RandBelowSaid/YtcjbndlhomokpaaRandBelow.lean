/- Contracts of rand.stream and rand.Below. -/
import Derived.Test.YtcjbndlhomokpaaRandWord
import Derived.Test.YtcjbndlhomokpaaRangeB
namespace Go.Proofs.Ytcjbndlhomokpaa
set_option linter.unusedVariables false
open Go.RowKit Go.Shelf Go.Mem Go.Pure
attribute [local go_sem] Oper.semAt_some

/-- What is handed on: the index of the next word, and the word. -/
def strE (seed : Int) (lab : List UInt8) (i : Int) (x : Nat) : Array Value := #[.int .i64 (i + x + 1), .int .u64 (wordI seed lab (i + x))]

set_option maxHeartbeats 400000 in
theorem stream_any (seed : Int) (s : ByteArray) (i : Int) (w : World) :
    Calls Try.prog 31 #[.int .u64 seed, .string s, .int .i64 i] w fun e w' => e = .returned (.func (.func 51) #[] #[.pointer (some ⟨w.heap.size + 2, 0, none⟩), .pointer (some ⟨w.heap.size, 0, none⟩), .pointer (some ⟨w.heap.size + 1, 0, none⟩)]) ∧
      Blk w' w.heap.size 22 #[.int .u64 seed] ∧ Blk w' (w.heap.size + 1) 9 #[.string s] ∧ Blk w' (w.heap.size + 2) 3 #[.int .i64 i] ∧ New w w' ∧ w'.heap.size = w.heap.size + 3 := by
  go_enter Try.func31, Try.ntmps31
  go_wp2
  go_ret
  have h1 : Blk (w.alloc (.cells #[.int .u64 seed] 22)) w.heap.size 22 #[.int .u64 seed] := Blk.new _ _ _
  have h2 : Blk ((w.alloc (.cells #[.int .u64 seed] 22)).alloc (.cells #[.string s] 9)) (w.heap.size + 1) 9 #[.string s] := by
    have := Blk.new (w.alloc (.cells #[.int .u64 seed] 22)) 9 #[.string s]
    rwa [World.size_alloc] at this
  have h3 : Blk (((w.alloc (.cells #[.int .u64 seed] 22)).alloc (.cells #[.string s] 9)).alloc (.cells #[.int .i64 i] 3)) (w.heap.size + 2) 3 #[.int .i64 i] := by
    have := Blk.new ((w.alloc (.cells #[.int .u64 seed] 22)).alloc (.cells #[.string s] 9)) 3 #[.int .i64 i]
    rwa [World.size_alloc, World.size_alloc] at this
  exact ⟨rfl, (h1.alloc _).alloc _, h2.alloc _, h3, (((Chg.refl _ w).alloc _).alloc _).alloc _, by simp⟩

/-- The boxes of the iterator. -/
def boxes (B : Nat) (k : Nat) : Prop := k = B ∨ k = B + 1 ∨ k = B + 2

set_option maxRecDepth 100000 in
set_option maxHeartbeats 2000000 in
theorem stream1_in (n : Nat) (hn : 1 ≤ n) (l B : Nat) (seed : Int) (s : ByteArray) (hs : s.size ≤ 1000000) (i : Int) (hi : 0 ≤ i ∧ i ≤ 1000000000) (m : Nat) (hm : m ≤ 1000000) (J Jx : List Nat → World → Prop)
    (hJ : ∀ s W W', J s W → New W W' → J s W') (hJB : ∀ s W, J s W → s.length < m)
    (hY : ∀ pre x W1, J pre W1 → x = pre.length → YieldAt Fence.wide (n - 1) Try.prog l (strE seed s.data.toList i x) W1 fun e W' =>
      (e = .returned (.bool true) ∧ J (pre ++ [x]) W' ∧ Keep (boxes B) W1 W') ∨ (e = .returned (.bool false) ∧ Jx (pre ++ [x]) W'))
    (W : World) (h1 : Blk W B 22 #[.int .u64 seed]) (h2 : Blk W (B + 1) 9 #[.string s]) (h3 : Blk W (B + 2) 3 #[.int .i64 i]) (h0 : J [] W) :
    CallsIn Fence.wide n Try.prog 51 #[.func (.yield l) #[] #[], .pointer (some ⟨B + 2, 0, none⟩), .pointer (some ⟨B, 0, none⟩), .pointer (some ⟨B + 1, 0, none⟩)] W fun e W' => (∃ v, e = .returned v) ∧
      ((∃ ys, False ∧ J ys W') ∨ (∃ pre, True ∧ Jx pre W')) := by
  refine callsIn_of_wp Try.func51 rfl trivial ?_ rfl
  simp only [Try.ntmps51, List.size_toArray, List.length_cons, List.length_nil, Nat.reduceAdd, Nat.reduceSub, Array.replicate_succ, Array.replicate_zero, List.push_toArray, List.append_toArray, List.nil_append, List.cons_append]
  have hc3 := h3.cell 0 rfl
  gi_wp2
  gi_loopw [5] (fun p wr => ∃ pre : List Nat, p = .int .i64 (i + pre.length) ∧ J pre wr ∧ Keep (boxes B) W wr) (fun p _ => (i + m - intOf p).toNat)
  case atStart => exact ⟨[], by simp, h0, fun _ _ => rfl⟩
  case round =>
    obtain ⟨pre, rfl, hJs, hK⟩ := hrel
    have hb1 : Blk wr B 22 #[.int .u64 seed] := (hK B (.inl rfl)).trans h1
    have hb2 : Blk wr (B + 1) 9 #[.string s] := (hK (B + 1) (.inr (.inl rfl))).trans h2
    have hb3 : Blk wr (B + 2) 3 #[.int .i64 i] := (hK (B + 2) (.inr (.inr rfl))).trans h3
    have hc1 := hb1.cell 0 rfl
    have hc2 := hb2.cell 0 rfl
    have hlen := hJB _ _ hJs
    obtain ⟨num, hnum⟩ : ∃ num, pre.length = num := ⟨_, rfl⟩
    rw [hnum] at hlen ⊢
    have HX := Lib.hid (And.intro hJs (And.intro hK (And.intro hnum (And.intro hb1 (And.intro hb2 hb3)))))
    have HY := Lib.hid hY
    have HJJ := Lib.hid hJ
    clear hJs hK hnum hb1 hb2 hb3 hY hJ hJB h1 h2 h3 hc3
    obtain ⟨hi1, hi2⟩ := hi
    gi_wp2
    refine ⟨trivial, (callsIn_wide.2 (word_any seed s hs (i + num) wr)).mono ?_⟩
    rintro e w1 ⟨rfl, hn1⟩
    obtain ⟨hJs, hK, hnum, hb1, hb2, hb3⟩ := HX.out
    have hJ1 : J pre w1 := HJJ.out _ _ _ hJs hn1
    obtain ⟨fn, tmps, assign, body, hy, hRR⟩ := HY.out pre num w1 hJ1 hnum.symm
    have H1 := Lib.hid (And.intro hn1 hRR)
    unfold strE at hy
    clear hJs hK hb1 hb2 hb3 hJ1 hn1 hRR hnum
    gi_wp2
    refine H1.out.2.mono ?_
    rintro e w2 (⟨rfl, hJ2, hk2⟩ | ⟨rfl, hJx2⟩)
    · gi_wp2
      go_roundw
      case rel =>
        obtain ⟨hJs, hK, hnum, hb1, hb2, hb3⟩ := HX.out
        refine ⟨pre ++ [num], ?_, hJ2, ?_⟩
        · rw [List.length_append, hnum]; go_num
        · intro k hk
          have hlt : k < wr.heap.size := by
            have a1 := hb1.lt
            have a2 := hb2.lt
            have a3 := hb3.lt
            rcases hk with rfl | rfl | rfl <;> assumption
          exact (hk2 k hk).trans ((H1.out.1.block k hlt (fun h => h)).trans (hK k hk))
      case measure => simp [intOf]; omega
    · gi_wp2
      refine bodyPost_end (results_none rfl _ _ _) rfl ?_
      exact ⟨⟨_, rfl⟩, .inr ⟨_, trivial, hJx2⟩⟩

theorem stream_seq (n : Nat) (hn : 1 ≤ n) (B : Nat) (seed : Int) (s : ByteArray) (hs : s.size ≤ 1000000) (i : Int) (hi : 0 ≤ i ∧ i ≤ 1000000000) (m : Nat) (hm : m ≤ 1000000) (w : World)
    (h1 : Blk w B 22 #[.int .u64 seed]) (h2 : Blk w (B + 1) 9 #[.string s]) (h3 : Blk w (B + 2) 3 #[.int .i64 i]) :
    SeqB Fence.wide n Try.prog 51 #[.pointer (some ⟨B + 2, 0, none⟩), .pointer (some ⟨B, 0, none⟩), .pointer (some ⟨B + 1, 0, none⟩)] (strE seed s.data.toList i)
      (fun pre x _ => x = pre.length) (Keep (boxes B)) (fun _ _ => False) (fun _ _ => True) (fun pre => pre.length < m) w := fun l J Jx W hW hJ hJB hY h0 =>
  stream1_in n hn l B seed s hs i hi m hm J Jx hJ hJB hY W (h1.chg hW (fun h => h)) (h2.chg hW (fun h => h)) (h3.chg hW (fun h => h)) h0

/-- 2^64 modulo n. -/
def overN (n : Nat) : Nat := 18446744073709551616 % n
/-- Is a word taken for the bound n? -/
def takes (n : Nat) (w : Int) : Prop := overN n = 0 ∨ w < 18446744073709551616 - overN n
instance (n : Nat) (w : Int) : Decidable (takes n w) := by unfold takes; exact inferInstance
/-- How many words are taken: the first that fits, at most 64 of them. -/
def triesN (n : Nat) (f : Nat → Int) : Nat → Nat → Nat
  | 0, k => k
  | t + 1, k => if takes n (f k) then k else triesN n f t (k + 1)
/-- The word that is taken. -/
def takenN (seed : Int) (lab : List UInt8) (i : Int) (n : Nat) : Nat := triesN n (fun k => wordI seed lab (i + k)) 63 0

theorem triesN_skip {n : Nat} {f : Nat → Int} : ∀ (k t : Nat), (∀ j, j < k → ¬ takes n (f j)) → triesN n f (t + k) 0 = triesN n f t k := by
  intro k
  induction k with
  | zero => intro t _; rfl
  | succ k ih =>
    intro t h
    have h1 := ih (t + 1) (fun j hj => h j (by omega))
    rw [show t + (k + 1) = t + 1 + k by omega, h1]
    show (if takes n (f k) then k else triesN n f t (k + 1)) = _
    rw [if_neg (h k (by omega))]
theorem taken_eq {seed : Int} {lab : List UInt8} {i : Int} {n k : Nat} (hk : k < 64) (h : ∀ j, j < k → ¬ takes n (wordI seed lab (i + (j : Nat)))) (ht : takes n (wordI seed lab (i + k)) ∨ k = 63) : takenN seed lab i n = k := by
  unfold takenN
  rw [show 63 = (63 - k) + k by omega, triesN_skip k (63 - k) h]
  rcases Nat.eq_zero_or_pos (63 - k) with h0 | h0
  · rw [h0]; rfl
  · obtain ⟨t, ht'⟩ : ∃ t, 63 - k = t + 1 := ⟨63 - k - 1, by omega⟩
    rw [ht']
    show (if takes n (wordI seed lab (i + (k : Nat))) then k else _) = k
    rcases ht with h1 | h1
    · rw [if_pos h1]
    · omega
theorem over_eq {n : Nat} (h1 : 1 ≤ n) (hn : n ≤ 4611686018427387904) : (IntKind.u64.wrap (-(n : Int))).tmod (n : Int) = (overN n : Int) := by
  rw [IntKind.wrap_u64]
  have e : (-(n : Int)) % 18446744073709551616 = ((18446744073709551616 - n : Nat) : Int) := by omega
  rw [e, Int.tmod_eq_emod_of_nonneg (by omega), ← Int.natCast_emod]
  unfold overN
  rw [Nat.mod_eq_sub_mod (a := 18446744073709551616) (b := n) (by omega)]
theorem over_lt {n : Nat} (h1 : 1 ≤ n) : overN n < n := Nat.mod_lt _ (by omega)
theorem word_range (seed : Int) (lab : List UInt8) (i : Int) : 0 ≤ wordI seed lab i ∧ wordI seed lab i ≤ 18446744073709551615 := sumI_range' _ _

/-- What holds ahead of each round. -/
def BelI (seed : Int) (s : ByteArray) (i : Int) (n ov B : Nat) (w : World) (pre : List Nat) (W : World) : Prop :=
  pre.length < 64 ∧ (∀ j, j < pre.length → ¬ takes n (wordI seed s.data.toList (i + (j : Nat)))) ∧ Blk W B 3 #[.int .i64 n] ∧ Blk W (B + 1) 3 #[.int .i64 0] ∧ Blk W (B + 1 + 1) 3 #[.int .i64 0] ∧ Blk W (B + 1 + 1 + 1) 22 #[.int .u64 ov] ∧ Blk W (B + 1 + 1 + 1 + 1) 3 #[.int .i64 pre.length] ∧ Below w.heap.size w W ∧ B + 1 + 1 + 1 + 1 + 1 + 3 ≤ W.heap.size
/-- What holds where the word has been taken. -/
def BelX (seed : Int) (s : ByteArray) (i : Int) (n B : Nat) (w : World) (c : Code) (_pre : List Nat) (W : World) : Prop :=
  c = .ret ∧ ∃ k, takenN seed s.data.toList i n = k ∧ k < 64 ∧ Blk W (B + 1) 3 #[.int .i64 (wordI seed s.data.toList (i + k) % n)] ∧ Blk W (B + 1 + 1) 3 #[.int .i64 (i + k + 1)] ∧ Below w.heap.size w W
theorem loadVar_int {W : World} {g : Nat} {v : Value} (h : W.cell? ⟨g, 0, none⟩ = some v) : (loadVar 3 ⟨g, 0, none⟩).run Try.prog W = .ok v W := by
  simp [loadVar, isAgg, run_underlying Try.underlying3, h]
theorem results_int2 {fn : Func} {p q : Tmp} (h : fn.results = #[.cell p 3, .cell q 3]) (tmps : Array Value) {W : World} {g g' : Nat} {v v' : Value} (hp : tmps.getD p undef = .pointer (some ⟨g, 0, none⟩)) (hq : tmps.getD q undef = .pointer (some ⟨g', 0, none⟩))
    (hc : W.cell? ⟨g, 0, none⟩ = some v) (hc' : W.cell? ⟨g', 0, none⟩ = some v') : (results fn tmps).run Try.prog W = .ok (.tuple #[v, v']) W := by
  have hp' : tmps[p]?.getD undef = .pointer (some ⟨g, 0, none⟩) := by simpa using hp
  have hq' : tmps[q]?.getD undef = .pointer (some ⟨g', 0, none⟩) := by simpa using hq
  simp [results, h, hp', hq', asAddr, loadVar_int hc, loadVar_int hc']

set_option maxRecDepth 100000 in
set_option maxHeartbeats 2000000 in
theorem below_any (seed : Int) (s : ByteArray) (hs : s.size ≤ 1000000) (i : Int) (hi : 0 ≤ i ∧ i ≤ 1000000000) (n : Nat) (hn1 : 1 ≤ n) (hn : n ≤ 4611686018427387904) (w : World) :
    Calls Try.prog 11 #[.int .u64 seed, .string s, .int .i64 i, .int .i64 n] w fun e w' =>
      e = .returned (.tuple #[.int .i64 (wordI seed s.data.toList (i + takenN seed s.data.toList i n) % n), .int .i64 (i + takenN seed s.data.toList i n + 1)]) ∧ New w w' := by
  refine (callsIn_wide (n := 10)).1 ?_
  refine callsIn_of_wp_marks Try.func11 rfl trivial ?_ rfl
  simp only [Try.ntmps11, List.size_toArray, List.length_cons, List.length_nil, Nat.reduceAdd, Nat.reduceSub, Array.replicate_succ, Array.replicate_zero, List.push_toArray, List.append_toArray, List.nil_append, List.cons_append]
  have g1 : decide ((n : Int) < 1) = false := by simp; omega
  have g2 : decide ((4611686018427387904 : Int) < (n : Int)) = false := by simp; omega
  have hov := over_eq hn1 hn
  have hol := over_lt (n := n) hn1
  obtain ⟨ov, hovq⟩ : ∃ ov, overN n = ov := ⟨_, rfl⟩
  rw [hovq] at hov hol
  have HOV := Lib.hid hovq
  have HI := Lib.hid hi
  clear hovq
  gi_wp2
  clear hov
  refine ⟨trivial, (callsIn_wide.2 (stream_any seed s i _)).mono ?_⟩
  rintro e w1 ⟨rfl, hs1, hs2, hs3, hnw, hz1⟩
  obtain ⟨v1, e1⟩ : ∃ v, w.alloc (.cells #[.int .i64 (n : Int)] 3) = v := ⟨_, rfl⟩
  have hb1 : Blk v1 w.heap.size 3 #[.int .i64 n] := by rw [← e1]; exact Blk.new _ _ _
  have z1 : v1.heap.size = w.heap.size + 1 := by rw [← e1]; simp
  have n1 : New w v1 := by rw [← e1]; exact (Chg.refl _ w).alloc _
  rw [e1] at hs1 hs2 hs3 hnw hz1
  obtain ⟨v2, e2⟩ : ∃ v, v1.alloc (.cells #[.int .i64 0] 3) = v := ⟨_, rfl⟩
  have hb2 : Blk v2 (w.heap.size + 1) 3 #[.int .i64 0] := by rw [← e2, ← z1]; exact Blk.new _ _ _
  have z2 : v2.heap.size = w.heap.size + 1 + 1 := by rw [← e2, ← z1]; simp
  have n2 : New v1 v2 := by rw [← e2]; exact (Chg.refl _ v1).alloc _
  rw [e2] at hs1 hs2 hs3 hnw hz1
  obtain ⟨v3, e3⟩ : ∃ v, v2.alloc (.cells #[.int .i64 0] 3) = v := ⟨_, rfl⟩
  have hb3 : Blk v3 (w.heap.size + 1 + 1) 3 #[.int .i64 0] := by rw [← e3, ← z2]; exact Blk.new _ _ _
  have z3 : v3.heap.size = w.heap.size + 1 + 1 + 1 := by rw [← e3, ← z2]; simp
  have n3 : New v2 v3 := by rw [← e3]; exact (Chg.refl _ v2).alloc _
  rw [e3] at hs1 hs2 hs3 hnw hz1
  obtain ⟨v4, e4⟩ : ∃ v, v3.alloc (.cells #[.int .u64 (ov : Int)] 22) = v := ⟨_, rfl⟩
  have hb4 : Blk v4 (w.heap.size + 1 + 1 + 1) 22 #[.int .u64 ov] := by rw [← e4, ← z3]; exact Blk.new _ _ _
  have z4 : v4.heap.size = w.heap.size + 1 + 1 + 1 + 1 := by rw [← e4, ← z3]; simp
  have n4 : New v3 v4 := by rw [← e4]; exact (Chg.refl _ v3).alloc _
  rw [e4] at hs1 hs2 hs3 hnw hz1
  obtain ⟨v5, e5⟩ : ∃ v, v4.alloc (.cells #[.int .i64 0] 3) = v := ⟨_, rfl⟩
  have hb5 : Blk v5 (w.heap.size + 1 + 1 + 1 + 1) 3 #[.int .i64 0] := by rw [← e5, ← z4]; exact Blk.new _ _ _
  have z5 : v5.heap.size = w.heap.size + 1 + 1 + 1 + 1 + 1 := by rw [← e5, ← z4]; simp
  have n5 : New v4 v5 := by rw [← e5]; exact (Chg.refl _ v4).alloc _
  rw [e5] at hs1 hs2 hs3 hnw hz1
  rw [e1, e2, e3, e4, e5]
  rw [z5] at hs1 hs2 hs3 hz1 ⊢
  have hN := n1.new (n2.new (n3.new (n4.new (n5.new hnw))))
  have hc1 := hb1.chg (n2.new (n3.new (n4.new (n5.new hnw)))) (fun h => h)
  have hc2 := hb2.chg (n3.new (n4.new (n5.new hnw))) (fun h => h)
  have hc3 := hb3.chg (n4.new (n5.new hnw)) (fun h => h)
  have hc4 := hb4.chg (n5.new hnw) (fun h => h)
  have hc5 := hb5.chg hnw (fun h => h)
  clear e1 e2 e3 e4 e5 hb1 hb2 hb3 hb4 hb5 z1 z2 z3 z4 z5 n1 n2 n3 n4 n5 hnw
  obtain ⟨B, hB⟩ : ∃ B, w.heap.size = B := ⟨_, rfl⟩
  rw [hB] at hs1 hs2 hs3 hz1 hc1 hc2 hc3 hc4 hc5 ⊢
  gi_wp2
  refine wpIn_rangeB rfl (by omega) (gf := 51) rfl trivial (enters_of Try.func51 (by kernel_rfl) rfl)
    (stream_seq 9 (by omega) _ seed s hs i HI.out 64 (by omega) w1 hs1 hs2 hs3) (fun h h' => Keep.trans h h') ?kb (fun _ => rfl) (fun _ _ => Stab.const _ _) (fun _ => Stab.const _ _) (fun _ => Stab.const _ _)
    (BelI seed s i n ov B w)
    (fun pre W h => h.1)
    (BelX seed s i n B w) ?hI ?hIx
    ⟨by simp, by simp, hc1, hc2, hc3, hc4, hc5, New.below hN, by omega⟩ ?a1 ?assign ?body ?done ?stop
  case assign =>
    intro l x W K hK
    unfold strE
    gi_wp2
    exact hK
  case kb =>
    intro W l o o' hl ho hoc k hk
    refine World.putObj_heap_other ?_
    rcases hk with rfl | rfl | rfl <;> omega
  case hI =>
    rintro pre W W' row ⟨q1, q2, q3, q4, q5, q6, q7, q8, q9⟩ hg hr
    exact ⟨q1, q2, blk_kept q3 hg (fun r e => (hr r e).2), blk_kept q4 hg (fun r e => (hr r e).2), blk_kept q5 hg (fun r e => (hr r e).2), blk_kept q6 hg (fun r e => (hr r e).2), blk_kept q7 hg (fun r e => (hr r e).2),
      q8.grown hg q8.size (fun k e => by have := (hr k e).1; omega), Nat.le_trans q9 hg.size⟩
  case hIx =>
    rintro c pre W W' row ⟨q1, k, q2, q3, q4, q5, q6⟩ hg hr
    exact ⟨q1, k, q2, q3, blk_kept q4 hg (fun r e => (hr r e).2), blk_kept q5 hg (fun r e => (hr r e).2), q6.grown hg q6.size (fun k e => by have := (hr k e).1; omega)⟩
  case done =>
    rintro D xs W hD hF
    exact hF.elim
  case body =>
    rintro l' pre x W ⟨q1, q2, q3, q4, q5, q6, q7, q8, q9⟩ rfl
    obtain ⟨N, hNq⟩ : ∃ N, pre.length = N := ⟨_, rfl⟩
    rw [hNq] at q1 q2 q7 ⊢
    have hr1 := q3.cell 0 rfl
    have hr2 := q4.cell 0 rfl
    have hr3 := q5.cell 0 rfl
    have hr4 := q6.cell 0 rfl
    have hr5 := q7.cell 0 rfl
    have hf2 := q4.frozen 0
    have hf3 := q5.frozen 0
    have hf5 := q7.frozen 0
    have hl2 := q4.lt
    have hwr := word_range seed s.data.toList (i + N)
    obtain ⟨wd, hwd⟩ : ∃ wd, wordI seed s.data.toList (i + N) = wd := ⟨_, rfl⟩
    rw [hwd] at hwr ⊢
    have HQ := Lib.hid (And.intro q2 (And.intro q3 (And.intro q4 (And.intro q5 (And.intro q6 (And.intro q7 (And.intro q8 (And.intro hNq hwd))))))))
    clear q2 q3 q4 q5 q6 q7 q8 hNq hwd hs1 hs2 hs3 hc1 hc2 hc3 hc4 hc5 hN
    have hmd0 : 0 ≤ wd % (n : Int) := Int.emod_nonneg _ (by omega)
    have hmd1 : wd % (n : Int) < (n : Int) := Int.emod_lt_of_pos _ (by omega)
    have hmd2 : wd.tmod (n : Int) = wd % (n : Int) := Int.tmod_eq_emod_of_nonneg hwr.1
    obtain ⟨md, hmd⟩ : ∃ md, wd % (n : Int) = md := ⟨_, rfl⟩
    rw [hmd] at hmd0 hmd1 hmd2
    obtain ⟨hi1, hi2⟩ := hi
    have hN64 : (N : Int) < 64 := by omega
    have fin : ∀ a : Act, takes n wd ∨ N = 63 → ownPostG w1.heap.size (Keep (boxes (B + 5)))
        (BelI seed s i n ov B w) (BelX seed s i n B w)
        (pre ++ [N]) W .ret a (((W.setCell ⟨B + 1 + 1 + 1 + 1, 0, none⟩ (.int .i64 ((N : Int) + 1))).setCell ⟨B + 1, 0, none⟩ (.int .i64 md)).setCell ⟨B + 1 + 1, 0, none⟩ (.int .i64 (i + N + 1))) := by
      intro a ht
      obtain ⟨q2, q3, q4, q5, q6, q7, q8, hNq, hwd⟩ := HQ.out
      refine ⟨((KeepsOthers.setCell _ _ _).trans ((KeepsOthers.setCell _ _ _).trans (KeepsOthers.setCell _ _ _))).from _, rfl, N, taken_eq q1 q2 (by rw [hwd]; exact ht), q1, ?_, ?_, ?_⟩
      · rw [hwd, hmd]
        exact (((q4.far (p := ⟨B + 1 + 1 + 1 + 1, 0, none⟩) (by simp) _).set_ 0 _).far (p := ⟨B + 1 + 1, 0, none⟩) (by simp) _)
      · exact ((q5.far (p := ⟨B + 1 + 1 + 1 + 1, 0, none⟩) (by simp) _).far (p := ⟨B + 1, 0, none⟩) (by simp) _).set_ 0 _
      · exact ((q8.setCell (p := ⟨B + 1 + 1 + 1 + 1, 0, none⟩) (by simp; omega) _).setCell (p := ⟨B + 1, 0, none⟩) (by simp; omega) _).setCell (p := ⟨B + 1 + 1, 0, none⟩) (by simp; omega) _
    have FIN := Lib.hid fin
    have HZ := Lib.hid (And.intro hz1 hB)
    clear fin hz1 hB
    by_cases h0 : ov = 0
    · subst h0
      have HT : Hid (takes n wd) := .inl HOV.out
      gi_wp2
      exact FIN.out _ (.inl HT.out)
    · have he : ((ov : Int) == 0) = false := by simp; omega
      have hneg : IntKind.u64.wrap (-(ov : Int)) = 18446744073709551616 - (ov : Int) := by rw [IntKind.wrap_u64]; omega
      by_cases hlt : wd < 18446744073709551616 - (ov : Int)
      · have HT : Hid (takes n wd) := .inr (by rw [HOV.out]; exact hlt)
        gi_wp2
        exact FIN.out _ (.inl HT.out)
      · have hltd : decide (wd < 18446744073709551616 - (ov : Int)) = false := by simpa using hlt
        have HT : Hid (¬ takes n wd) := fun h => by
          rcases h with h | h
          · exact h0 (by rw [← HOV.out]; exact h)
          · rw [HOV.out] at h; exact hlt h
        by_cases h63 : N = 63
        · have he64 : ((N : Int) + 1 == 64) = true := by simp; omega
          have H63 := Lib.hid h63
          clear h63
          gi_wp2
          exact FIN.out _ (.inr H63.out)
        · have he64 : ((N : Int) + 1 == 64) = false := by simp; omega
          gi_wp2
          obtain ⟨q2, q3, q4, q5, q6, q7, q8, hNq, hwd⟩ := HQ.out
          obtain ⟨hz1, hB⟩ := HZ.out
          refine ⟨(KeepsOthers.setCell _ _ _).from _, ?_, ?_, ?_, ?_, ?_, ?_, ?_, ?_, ?_, ?_⟩
          · intro k hk
            refine Below.heap_setCell W _ _ k ?_
            rcases hk with rfl | rfl | rfl
            · simp
            · simp
            · simp
          · rw [List.length_append, hNq]; simp; omega
          · intro j hj
            rw [List.length_append, hNq] at hj
            rcases Nat.lt_or_ge j N with g | g
            · exact q2 j g
            · obtain rfl : j = N := by simp at hj; omega
              rw [hwd]
              exact HT.out
          · exact q3.far (p := ⟨B + 1 + 1 + 1 + 1, 0, none⟩) (by simp; omega) _
          · exact q4.far (p := ⟨B + 1 + 1 + 1 + 1, 0, none⟩) (by simp) _
          · exact q5.far (p := ⟨B + 1 + 1 + 1 + 1, 0, none⟩) (by simp) _
          · exact q6.far (p := ⟨B + 1 + 1 + 1 + 1, 0, none⟩) (by simp) _
          · have := q7.set_ 0 (.int .i64 ((N : Int) + 1))
            rw [List.length_append, hNq]
            exact this
          · exact q8.setCell (p := ⟨B + 1 + 1 + 1 + 1, 0, none⟩) (by simp; omega) _
          · simp [World.setCell]
            omega
  case stop =>
    rintro D c pre W hD _ ⟨rfl, k, hk, hk64, hb1, hb2, hB2⟩ hK
    have hd1 := hb1.cell 0 rfl
    have hd2 := hb2.cell 0 rfl
    have HX := Lib.hid (And.intro hk (And.intro hb1 (And.intro hb2 (And.intro hB2 hK))))
    clear hk hb1 hb2 hB2 hK
    gi_wp2
    obtain ⟨hk, hb1, hb2, hB2, hK⟩ := HX.out
    refine ⟨by simp, .inl ⟨_, _, rfl, run_takeDeferred hK, ?_⟩⟩
    have hst : Stab 0 (fun V => Blk V (B + 1) 3 #[.int .i64 (wordI seed s.data.toList (i + k) % n)] ∧ Blk V (B + 1 + 1) 3 #[.int .i64 (i + k + 1)]) := Stab.and (Stab.blk _ _ _ _) (Stab.blk _ _ _ _)
    have hfin := hst.put (W := W) (l := D) (.deferred none) ⟨hb1, hb2⟩ (Nat.zero_le _) hK rfl
    refine ⟨_, results_int2 rfl _ rfl rfl (hfin.1.cell 0 rfl) (hfin.2.cell 0 rfl), ?_, New.of_below (hB2.trans (belowK_b (w := w) (Nat.le_refl _) _ D _ _ (by omega) hK rfl rfl))⟩
    rw [hk]
    rfl
end Go.Proofs.Ytcjbndlhomokpaa
