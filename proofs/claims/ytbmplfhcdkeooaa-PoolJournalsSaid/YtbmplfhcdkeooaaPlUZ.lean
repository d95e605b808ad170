/- The steps of PoolJournals: a pool, a disk and a log beside each other, boxes. -/
import Derived.Test.YtbmplfhcdkeooaaPlRZ
import Derived.Test.YtbmplfhcdkeooaaPurePl6Z
import Derived.Test.YtbmplfhcdkeooaaG0
import Derived.Test.YtbmplfhcdkeooaaJnCZ
import Derived.Test.YtbmplfhcdkeooaaDkJZ
import Derived.Test.YtbmplfhcdkeooaaDkDZ
set_option linter.unusedSimpArgs false
set_option linter.unusedVariables false
namespace Go.Proofs.Ytbmplfhcdkeooaa
set_option linter.unusedVariables false
open Go.RowKit Go.Mem Go.Pl

abbrev Bxs := List (Nat × TypeId × Array Value)
/-- The pool s at gp, the disk sd at gd, the log lg at gl, boxes bx. -/
structure JSz (O Z : Nat → Prop) (m : Nat) (V : Nat → Value) (w : World) (gp gd gl : Nat) (bx : Bxs) (s : S) (sd : Dk.S) (lg : Jn.Lg) (wr : World) : Prop where
  pl : P2 w wr O Z gp s
  di : DI wr gd m V sd
  lg_ : Blk wr gl 125 (lgCells gd lg)
  zd : ∀ k, ownD gd m V k → w.heap.size ≤ k ∧ ¬ Z k
  gz : ¬ Z gl
  gd_ : ¬ ownD gd m V gl
  gw : w.heap.size ≤ gl
  bxs : ∀ b ∈ bx, Blk wr b.1 b.2.1 b.2.2 ∧ ¬ Z b.1 ∧ ¬ ownD gd m V b.1 ∧ b.1 ≠ gl
def JS (w : World) (gp gd gl : Nat) (bx : Bxs) (s : S) (sd : Dk.S) (lg : Jn.Lg) (wr : World) : Prop := ∃ O Z m V, JSz O Z m V w gp gd gl bx s sd lg wr
section
variable {w w1 w2 : World} {gp gd gl : Nat} {bx : Bxs} {s s' : S} {sd : Dk.S} {lg : Jn.Lg}
theorem JSz.step {O Z O' Z' : Nat → Prop} {m : Nat} {V : Nat → Value} {w' : World} (h : JSz O Z m V w gp gd gl bx s sd lg w1) (h2 : P2 w w' O' Z' gp s') (hs : P2Step w1 w' O Z Z') : JSz O' Z' m V w gp gd gl bx s' sd lg w' := by
  have hz : ∀ k, k < w1.heap.size → ¬ Z k → ¬ Z' k := fun k hk hn ho => by
    rcases hs.own k ho with h | h
    · exact hn h
    · omega
  refine ⟨h2, h.di.chg hs.chg (fun k hk ho => (h.zd k hk).2 (hs.sub k ho)), h.lg_.chg hs.chg (fun ho => h.gz (hs.sub _ ho)), fun k hk => ⟨(h.zd k hk).1, hz k (h.di.lt hk) (h.zd k hk).2⟩, hz _ h.lg_.lt h.gz, h.gd_, h.gw, fun b hb => ?_⟩
  obtain ⟨q1, q2, q3⟩ := h.bxs b hb
  exact ⟨q1.chg hs.chg (fun ho => q2 (hs.sub _ ho)), hz _ q1.lt q2, q3⟩
theorem JSz.new {O Z : Nat → Prop} {m : Nat} {V : Nat → Value} {w' : World} (h : JSz O Z m V w gp gd gl bx s sd lg w1) (hn : New w1 w') : JSz O Z m V w gp gd gl bx s sd lg w' := h.step (h.pl.new hn) (P2Step.of_new h.pl hn)
theorem JS.new {w' : World} (h : JS w gp gd gl bx s sd lg w1) (hn : New w1 w') : JS w gp gd gl bx s sd lg w' := by
  obtain ⟨O, Z, m, V, h⟩ := h
  exact ⟨O, Z, m, V, h.new hn⟩
theorem JS.was (h : JS w gp gd gl bx s sd lg w1) : New w w1 := by obtain ⟨O, Z, m, V, h⟩ := h; exact h.pl.was
theorem JS.bx_at (h : JS w gp gd gl bx s sd lg w1) {b : Nat × TypeId × Array Value} (hb : b ∈ bx) : Blk w1 b.1 b.2.1 b.2.2 := by
  obtain ⟨O, Z, m, V, h⟩ := h
  exact (h.bxs b hb).1
theorem JS.box (h : JS w gp gd gl bx s sd lg w1) (t : TypeId) (cs : Array Value) : JS w gp gd gl ((w1.heap.size, t, cs) :: bx) s sd lg (w1.alloc (.cells cs t)) := by
  have hn : New w1 (w1.alloc (.cells cs t)) := (Chg.refl _ _).alloc _
  obtain ⟨O, Z, m, V, h⟩ := h
  have h' := h.new hn
  refine ⟨O, Z, m, V, h'.pl, h'.di, h'.lg_, h'.zd, h'.gz, h'.gd_, h'.gw, fun b hb => ?_⟩
  rcases List.mem_cons.1 hb with rfl | hb
  · refine ⟨Blk.new _ _ _, fun hz => ?_, fun e => ?_, fun e => ?_⟩
    · have := h.pl.lt hz; omega
    · have := h.di.lt e; omega
    · have h1 := h.lg_.lt
      have e : w1.heap.size = gl := e
      omega
  · exact h'.bxs b hb
theorem JS.drop (h : JS w gp gd gl bx s sd lg w1) (bx' : Bxs) (hs : ∀ b ∈ bx', b ∈ bx) : JS w gp gd gl bx' s sd lg w1 := by
  obtain ⟨O, Z, m, V, h⟩ := h
  exact ⟨O, Z, m, V, h.pl, h.di, h.lg_, h.zd, h.gz, h.gd_, h.gw, fun b hb => h.bxs b (hs b hb)⟩
theorem p2NewZ (n : Nat) (timeout : Int) (hn : 1 ≤ n ∧ n ≤ 8) (ht : 1 ≤ timeout ∧ timeout ≤ 1099511627776) (w w0 : World) (hw : New w w0) :
    Calls Try.prog 10 #[.int .i64 (n : Int), .int .i64 timeout] w0 fun e w' => ∃ g O Z, e = .returned (.tuple #[.pointer (some ⟨g, 0, none⟩), .int .i64 0]) ∧ P2 w w' O Z g (new n timeout) ∧ New w0 w' ∧ ∀ k, Z k → w0.heap.size ≤ k := by
  refine (plNew_any n timeout hn ht (fun _ => ⟨0, .slice none 0 0, .slice none 0 0, .slice none 0 0⟩) w0).mono ?_
  rintro e w' ⟨g, m, dv, rfl, h1, h2, h3⟩
  have hp := h1 (fun _ => False) (fun k hk => hk.elim)
  have hz : ∀ k, (ownP g m dv (fun _ => ⟨0, .slice none 0 0, .slice none 0 0, .slice none 0 0⟩) (new n timeout) k ∨ False) → w0.heap.size ≤ k := fun k hk => by
    rcases hk with hk | hk
    · exact h3 k hk
    · exact hk.elim
  exact ⟨g, _, _, rfl, ⟨hw.trans h2 (fun _ _ h => h), fun k hk => Nat.le_trans hw.size (hz k hk), m, dv, _, fun _ => False, rfl, rfl, hp⟩, h2, hz⟩
theorem JS.dwf (h : JS w gp gd gl bx s sd lg w1) : Dk.WF sd := by obtain ⟨O, Z, m, V, h⟩ := h; exact h.di.wf
/-- The start. -/
theorem JS.start {O Z : Nat → Prop} {m : Nat} {V : Nat → Value} {w0 w' : World} (hw : w.heap.size ≤ w1.heap.size) (hd : DI w0 gd m V sd) (hdw : ∀ k, ownD gd m V k → w.heap.size ≤ k) (hl : Blk w0 gl 125 (lgCells gd lg)) (hgl : w.heap.size ≤ gl) (hgo : ¬ ownD gd m V gl) (hp : P2 w w' O Z gp s) (hn : New w0 w') (hz : ∀ k, Z k → w0.heap.size ≤ k) : JS w gp gd gl [] s sd lg w' :=
  ⟨O, Z, m, V, hp, hd.new hn, hl.chg hn (fun h => h), fun k hk => ⟨hdw k hk, fun h => by have := hz k h; have := hd.lt hk; omega⟩, fun h => by have := hz _ h; have := hl.lt; omega, hgo, hgl, fun b hb => by simp at hb⟩
/-! ### the calls -/
theorem JS.add (h : JS w gp gd gl bx s sd lg w1) (id : Int) (hid : Go.Mem.I64 id) : Calls Try.prog 12 #[.pointer (some ⟨gp, 0, none⟩), .agg #[.int .i64 id, .slice none 0 0]] w1 fun e w' => e = .returned (.int .i64 (Pl.add s id []).2) ∧ JS w gp gd gl bx (Pl.add s id []).1 sd lg w' := by
  obtain ⟨O, Z, m, V, h⟩ := h
  refine (p2Add h.pl id hid none 0 0 [] (Rd.nil _ _) (by omega)).mono ?_
  rintro e w' ⟨rfl, O', Z', q1, q2⟩
  exact ⟨rfl, _, _, _, _, h.step q1 q2⟩
theorem JS.ask (h : JS w gp gd gl bx s sd lg w1) (worker now : Int) (hN : s.tries.length ≤ 1000) : Calls Try.prog 14 #[.pointer (some ⟨gp, 0, none⟩), .int .i64 worker, .int .i64 now] w1 fun e w' => ∃ A n c, e = .returned (.tuple #[.agg #[.int .i64 (Pl.ask s worker now).2.id, .slice A n c], .int .i64 (Pl.ask s worker now).2.num, .bool (Pl.ask s worker now).2.is, .int .i64 (Pl.ask s worker now).2.err]) ∧ JS w gp gd gl bx (Pl.ask s worker now).1 sd lg w' := by
  obtain ⟨O, Z, m, V, h⟩ := h
  refine (p2Ask h.pl worker now (by omega)).mono ?_
  rintro e w' ⟨A, c, rfl, _, O', Z', q1, q2⟩
  exact ⟨A, _, c, rfl, _, _, _, _, h.step q1 q2⟩
/-- The bytes lie in a box. -/
theorem JS.answer (h : JS w gp gd gl bx s sd lg w1) (task worker num now : Int) (ht : Go.Mem.I64 task) (hn : Go.Mem.I64 num) {gb n : Nat} {l : List UInt8} {t : TypeId} {cs : Array Value} (hl : l.length = n) (hn9 : n ≤ 1000) (hb : (gb, t, cs) ∈ bx) (hcs : cs.toList = bs l) :
    Calls Try.prog 15 #[.pointer (some ⟨gp, 0, none⟩), .agg #[.int .i64 task, .int .i64 worker, .int .i64 num, .slice (some ⟨gb, 0, none⟩) n n], .int .i64 now] w1 fun e w' => e = .returned (.tuple #[.bool (Pl.answer s task worker num l now).2.1, .int .i64 (Pl.answer s task worker num l now).2.2]) ∧ JS w gp gd gl bx (Pl.answer s task worker num l now).1 sd lg w' := by
  obtain ⟨O, Z, m, V, h⟩ := h
  obtain ⟨b1, b2, _⟩ := h.bxs _ hb
  have hr : Rd w1 (some ⟨gb, 0, none⟩) n (bs l) := ⟨by rw [bs_length]; exact hl, fun _ => ⟨_, rfl, fun j u hu => by
    rw [Addr.add_lit, Nat.zero_add]
    refine b1.cell j ?_
    rw [← hcs] at hu
    simpa using hu⟩⟩
  refine (p2Answer h.pl task worker num now ht hn (some ⟨gb, 0, none⟩) n n l hr (by omega) (fun k hk hz => by injection hk with hk; have hk : gb = k := hk; subst hk; exact b2 hz)).mono ?_
  rintro e w' ⟨rfl, O', Z', q1, q2⟩
  exact ⟨rfl, _, _, _, _, h.step q1 q2⟩
/-- One more record. -/
theorem JS.append (h : JS w gp gd gl bx s sd lg w1) (B : Option Addr) (nb cb : Nat) (b : List UInt8) (hb : Rd w1 B nb (bs b)) (hB : ∀ k, blk B = some k → k < w1.heap.size) (hbl : b.length ≤ 100000000) (hs : lg.size ≤ 1000000000) :
    Calls Try.prog 38 #[.pointer (some ⟨gl, 0, none⟩), .slice B nb cb] w1 fun e w' => e = .returned (.int .i64 (Jn.appJ sd lg b).2.2) ∧ JS w gp gd gl [] s (Jn.appJ sd lg b).1 (Jn.appJ sd lg b).2.1 w' := by
  obtain ⟨O, Z, m, V, h⟩ := h
  refine (jAppend_any gd m V sd gl lg w1 h.di h.lg_ h.gd_ B nb cb b hb hB hbl hs).mono ?_
  rintro e w' ⟨rfl, V', q1, q2, q3, q4⟩
  refine ⟨rfl, O, Z, m, V', h.pl.chg q3 (fun k hk => ?_) (fun k hz hk => ?_), q1, q2, fun k hk => ?_, h.gz, fun hk => ?_, h.gw, fun b hb => by simp at hb⟩
  · rcases hk with hk | rfl
    · exact (h.zd k hk).1
    · exact h.gw
  · rcases hk with hk | rfl
    · exact (h.zd k hk).2 hz
    · exact h.gz hz
  · rcases q4 k hk with h1 | h1
    · exact h.zd k h1
    · exact ⟨Nat.le_trans h.pl.was.size h1, fun hZ => by have := h.pl.lt hZ; omega⟩
  · rcases q4 _ hk with h1 | h1
    · exact h.gd_ h1
    · have := h.lg_.lt; omega
/-- The crash. -/
theorem JS.crash (h : JS w gp gd gl bx s sd lg w1) (k : Int) (hk : -9223372036854775808 ≤ k ∧ k ≤ 9223372036854775807) {w3 : World} (hw : New w1 w3) {gb : Nat} (hg : w1.heap.size ≤ gb) (hb : Rd w3 (some ⟨gb, 0, none⟩) 1 (is [k])) (hl : gb < w3.heap.size) :
    Calls Try.prog 39 #[.pointer (some ⟨gd, 0, none⟩), .slice (some ⟨gb, 0, none⟩) 1 1, .int .i64 (-1)] w3 fun e w' => e = .returned (.tuple #[]) ∧ JS w gp gd gl [] s (Dk.crash sd [k] (-1)) lg w' := by
  obtain ⟨O, Z, m, V, h⟩ := h
  have h3 := h.new hw
  refine (dCrash_any gd m V sd w3 h3.di (some ⟨gb, 0, none⟩) 1 1 [k] hb (fun x hx => ?_) (by omega) (fun z hz => by simp at hz; subst hz; exact hk) (-1) (by omega)).mono ?_
  · injection hx with hx
    have hx : gb = x := hx
    subst hx
    exact ⟨fun ho => by have := h.di.lt ho; omega, hl⟩
  rintro e w' ⟨rfl, V', q1, q2⟩
  refine ⟨rfl, O, Z, m, V', h3.pl.chg q2.chg (fun k hk => (h3.zd k hk).1) (fun k hz hk => (h3.zd k hk).2 hz), q1, h3.lg_.chg q2.chg h3.gd_, fun k hk => ?_, h3.gz, fun hk => ?_, h3.gw, fun b hb => by simp at hb⟩
  · rcases q2.own k hk with h1 | h1
    · exact h3.zd k h1
    · exact ⟨Nat.le_trans h3.pl.was.size h1, fun hZ => by have := h3.pl.lt hZ; omega⟩
  · rcases q2.own _ hk with h1 | h1
    · exact h3.gd_ h1
    · have := h3.lg_.lt; omega
/-- Open behind it: the pool, the rows. -/
theorem JS.open (h : JS w gp gd gl bx s sd lg w1) (hok : (Jn.openJ sd 2).2.1 = 0) : Calls Try.prog 36 #[.pointer (some ⟨gd, 0, none⟩), .int .i64 2] w1 fun e w' => ∃ p A cl vs O Z, e = .returned (.tuple #[p, .slice A (Jn.openJ sd 2).2.2.length cl, .int .i64 0]) ∧ Rd w' A (Jn.openJ sd 2).2.2.length vs ∧ Lists w' vs (Jn.openJ sd 2).2.2 ∧ P2 w w' O Z gp s := by
  obtain ⟨O, Z, m, V, h⟩ := h
  refine (jOpen_any gd m V sd w1 h.di 2).mono ?_
  rintro e w' ⟨p, A, nl, cl, vs, V', rfl, q1, q2, q3⟩
  rw [hok] at q3 ⊢
  rcases q3 with ⟨_, gl', rfl, _, _, _, hr⟩ | ⟨hx, _⟩
  · have hr0 := Rd.of_own hr.own
    have hl := hr0.len
    rw [hr.rows.1] at hl
    subst hl
    exact ⟨_, A, cl, vs, O, Z, rfl, hr0, hr.rows, h.pl.chg q2.chg (fun k hk => (h.zd k hk).1) (fun k hz hk => (h.zd k hk).2 hz)⟩
  · exact absurd rfl hx
end
/-! ### the records -/
/-- The disk holds the records rs. -/
def Held (rs : List (Int × List UInt8)) (sd : Dk.S) (lg : Jn.Lg) : Prop := Jn.Cal sd (fun i => if i = 2 then rs.map (fun r => Pure.coreP r.1 r.2) else []) ∧ sd.room = 100000 ∧ Dk.used sd ≤ 100 * rs.length ∧ lg = ⟨2, rs.length, false⟩
theorem held_start : ∃ s', Jn.openJ (Dk.new 100000) 2 = (s', 0, []) ∧ Held [] s' ⟨2, 0, false⟩ := by
  have hc := Jn.Cal.new 100000
  obtain ⟨s', e, q1, q2, q3⟩ := hc.open (i := 2) (by omega) (fun j => by rw [Pure.framesP_nil]; simp)
  refine ⟨s', e, ?_, q2, ?_, rfl⟩
  · have ef : (fun i : Nat => if i = 2 then ([] : List (Int × List UInt8)).map (fun r => Pure.coreP r.1 r.2) else []) = fun _ => [] := by
      funext i
      split <;> rfl
    rw [ef]
    exact q1
  · rw [Jn.used_nil (fun i => by rw [q3]; rfl)]
    simp
theorem Held.app {rs : List (Int × List UInt8)} {sd : Dk.S} {lg : Jn.Lg} (h : Held rs sd lg) (hl : rs.length ≤ 24) {id : Int} {b : List UInt8} (hb : b.length = 2) (hid : 0 ≤ id ∧ id ≤ 5) : ∃ sd' lg', Jn.appJ sd lg (Pure.coreP id b) = (sd', lg', 0) ∧ Held (rs ++ [(id, b)]) sd' lg' := by
  obtain ⟨h1, h2, h3, rfl⟩ := h
  have hc := Pure.coreP_len id b (by omega) (by omega) (by omega)
  have hf := Pure.frameP_len (rs.length : Int) (Pure.coreP id b) (by omega) (by omega) (by omega)
  obtain ⟨sd', e, q1, q2, q3⟩ := h1.app (i := 2) (b := Pure.coreP id b) (by omega) (by omega) (by
    show Dk.used sd + (Pure.frameP (((if (2:Nat) = 2 then rs.map (fun r => Pure.coreP r.1 r.2) else []).length : Nat) : Int) _).length ≤ sd.room
    rw [if_pos rfl, List.length_map, h2]
    omega)
  have el : ((fun i : Nat => if i = 2 then rs.map (fun r => Pure.coreP r.1 r.2) else []) 2).length = rs.length := by
    show (if (2:Nat) = 2 then rs.map (fun r => Pure.coreP r.1 r.2) else []).length = _
    rw [if_pos rfl, List.length_map]
  rw [el] at e q2
  refine ⟨sd', _, e, ?_, q3.trans h2, by rw [q2, List.length_append, List.length_singleton]; omega, by rw [List.length_append]; rfl⟩
  have ef : Dk.upd (fun i : Nat => if i = 2 then rs.map (fun r => Pure.coreP r.1 r.2) else []) 2 ((fun i : Nat => if i = 2 then rs.map (fun r => Pure.coreP r.1 r.2) else []) 2 ++ [Pure.coreP id b]) = fun i => if i = 2 then (rs ++ [(id, b)]).map (fun r => Pure.coreP r.1 r.2) else [] := by
    funext i
    unfold Dk.upd
    by_cases hi : i = 2
    · subst hi; simp
    · simp [hi]
  rw [ef] at q1
  exact q1
theorem Held.crash {rs : List (Int × List UInt8)} {sd : Dk.S} {lg : Jn.Lg} (h : Held rs sd lg) (k : Int) (hw : Dk.WF (Dk.crash sd [k] (-1))) : ∃ s', Jn.openJ (Dk.crash sd [k] (-1)) 2 = (s', 0, rs.map (fun r => Pure.coreP r.1 r.2)) := by
  obtain ⟨h1, h2, h3, rfl⟩ := h
  obtain ⟨q1, q2⟩ := h1.crash [k] (-1)
  obtain ⟨s', e, _⟩ := q1.open (i := 2) (by omega) (fun j => by have := q1.len hw j; omega)
  exact ⟨s', by rw [show ((2 : Nat) : Int) = 2 from rfl] at e; rw [e]; simp⟩
end Go.Proofs.Ytbmplfhcdkeooaa
