/- A pool and a model, boxes and bytes beside them, through an operation. -/
import Derived.Test.YtbmplfhcdkeooaaPmAZ
import Derived.Test.YtbmplfhcdkeooaaPureScr
set_option linter.unusedSimpArgs false
set_option linter.unusedVariables false
namespace Go.Proofs.Ytbmplfhcdkeooaa
set_option linter.unusedVariables false
open Go.RowKit Go.Mem Go.Pl

def pickT (s : S) (o : OpP) : Int × Int × Int :=
  if 0 < s.tries.length ∧ 0 < o.n % 5 then (match s.tries[(o.n % s.tries.length).toNat]? with
    | some t => (t.task, t.worker, t.num)
    | none => (0, 0, 0)) else (o.n % 13, o.worker, o.n / 13)
/-- What an operation makes of a state. -/
def stepS (s : S) (o : OpP) : S :=
  if o.kind = 0 then (add s o.n o.body).1 else if o.kind = 1 then (Pl.ask s o.worker (s.tick + o.wait)).1 else
  if o.kind = 2 then (Pl.answer s (pickT s o).1 (pickT s o).2.1 (pickT s o).2.2 o.body (s.tick + o.wait)).1 else
  if o.kind = 3 then (Pl.die s o.worker (s.tick + o.wait)).1 else (revive s o.worker).1
structure Bxr where
  g : Nat
  t : TypeId
  cs : Array Value
/-- Since w1: a pool, a model, boxes, bytes. -/
structure PSz (U' X' : Nat → Prop) (B U X : Nat → Prop) (w w1 : World) (g h : Nat) (bx : List Bxr) (by_ : List (Option Addr × List UInt8)) (sp sr : S) (wr : World) : Prop where
  pm : PM U' X' w g h sp sr wr
  st : PMStep B U X U' X' w1 wr
  bx : ∀ b ∈ bx, Blk wr b.g b.t b.cs ∧ ¬ U' b.g
  rd : ∀ b ∈ by_, Rd wr b.1 b.2.length (bs b.2) ∧ ∀ k, blk b.1 = some k → k < wr.heap.size ∧ ¬ U' k
def PS (B U X : Nat → Prop) (w w1 : World) (g h : Nat) (bx : List Bxr) (by_ : List (Option Addr × List UInt8)) (sp sr : S) (wr : World) : Prop := ∃ U' X', PSz U' X' B U X w w1 g h bx by_ sp sr wr
section
variable {w w1 wr : World} {g h : Nat} {sp sr sp' sr' : S} {B U X U' X' U'' X'' : Nat → Prop} {bx : List Bxr} {by_ : List (Option Addr × List UInt8)}
theorem PSz.go (hz : PSz U' X' B U X w w1 g h bx by_ sp sr wr) {w' : World} (h1 : PM U'' X'' w g h sp' sr' w') (h2 : PMStep B U' X' U'' X'' wr w') : PS B U X w w1 g h bx by_ sp' sr' w' := by
  refine ⟨U'', X'', h1, hz.st.trans h2, fun b hb => ?_, fun b hb => ?_⟩
  · obtain ⟨q1, q2⟩ := hz.bx b hb
    refine ⟨q1.chg h2.chg q2, fun hu => ?_⟩
    rcases h2.own _ hu with h | h
    · exact q2 h
    · have := q1.lt; omega
  · obtain ⟨q1, q2⟩ := hz.rd b hb
    refine ⟨q1.chg h2.chg (fun k hk _ => (q2 k hk).2), fun k hk => ⟨Nat.lt_of_lt_of_le (q2 k hk).1 h2.chg.size, fun hu => ?_⟩⟩
    rcases h2.own _ hu with h | h
    · exact (q2 k hk).2 h
    · have := (q2 k hk).1; omega
theorem PS.start {s : S} (hp : PM U X w g h s s wr) (by_ : List (Option Addr × List UInt8)) (hr : ∀ b ∈ by_, Rd wr b.1 b.2.length (bs b.2) ∧ ∀ k, blk b.1 = some k → k < wr.heap.size ∧ ¬ U k) : PS B U X w wr g h [] by_ s s wr :=
  ⟨U, X, hp, PMStep.of_new hp (Chg.refl _ _), fun b hb => by simp at hb, hr⟩
theorem PS.new (hp : PS B U X w w1 g h bx by_ sp sr wr) {w' : World} (hn : New wr w') : PS B U X w w1 g h bx by_ sp sr w' := by
  obtain ⟨U', X', hz⟩ := hp
  exact hz.go (hz.pm.new hn) (PMStep.of_new hz.pm hn)
theorem PS.box (hp : PS B U X w w1 g h bx by_ sp sr wr) (t : TypeId) (cs : Array Value) : PS B U X w w1 g h (⟨wr.heap.size, t, cs⟩ :: bx) by_ sp sr (wr.alloc (.cells cs t)) := by
  obtain ⟨U', X', hz⟩ := hp
  have hn : New wr (wr.alloc (.cells cs t)) := (Chg.refl _ _).alloc _
  refine ⟨U', X', hz.pm.new hn, hz.st.trans (PMStep.of_new hz.pm hn), fun b hb => ?_, fun b hb => ?_⟩
  · rcases List.mem_cons.1 hb with rfl | hb
    · exact ⟨Blk.new _ _ _, fun hu => by have := hz.pm.lt (hz.pm.sub _ hu); dsimp only at this; omega⟩
    · obtain ⟨q1, q2⟩ := hz.bx b hb
      exact ⟨q1.chg hn (fun h => h), q2⟩
  · obtain ⟨q1, q2⟩ := hz.rd b hb
    exact ⟨q1.new hn, fun k hk => ⟨Nat.lt_of_lt_of_le (q2 k hk).1 hn.size, (q2 k hk).2⟩⟩
theorem PS.bx_at (hp : PS B U X w w1 g h bx by_ sp sr wr) {b : Bxr} (hb : b ∈ bx) : Blk wr b.g b.t b.cs := by
  obtain ⟨U', X', hz⟩ := hp
  exact (hz.bx b hb).1
theorem PS.rd_at (hp : PS B U X w w1 g h bx by_ sp sr wr) {b : Option Addr × List UInt8} (hb : b ∈ by_) : Rd wr b.1 b.2.length (bs b.2) := by
  obtain ⟨U', X', hz⟩ := hp
  exact (hz.rd b hb).1
theorem PS.wf (hp : PS B U X w w1 g h bx by_ sp sr wr) : WF sp := by
  obtain ⟨U', X', hz⟩ := hp
  exact hz.pm.wf
theorem PS.out (hp : PS B U X w w1 g h bx by_ sp sr wr) : ∃ U' X', PM U' X' w g h sp sr wr ∧ PMStep B U X U' X' w1 wr := by
  obtain ⟨U', X', hz⟩ := hp
  exact ⟨U', X', hz.pm, hz.st⟩
theorem PS.rf (hp : PS B U X w w1 g h bx by_ sp sr wr) : ∃ al jv tv TR, RI wr h al jv tv TR sr := by
  obtain ⟨U', X', hz⟩ := hp
  obtain ⟨al, jv, tv, TR, q, _⟩ := hz.pm.rf
  exact ⟨al, jv, tv, TR, q⟩
/-! ### calls -/
theorem PS.pAdd (hp : PS B U X w w1 g h bx by_ sp sr wr) (id : Int) (hid : Go.Mem.I64 id) {A : Option Addr} {l : List UInt8} (hb : (A, l) ∈ by_) (n c : Nat) (hn : l.length = n) (hn9 : n ≤ 1000000000) : Calls Try.prog 12 #[.pointer (some ⟨g, 0, none⟩), .agg #[.int .i64 id, .slice A n c]] wr fun e w' => e = .returned (.int .i64 (Pl.add sp id l).2) ∧ PS B U X w w1 g h bx by_ (Pl.add sp id l).1 sr w' := by
  obtain ⟨U', X', hz⟩ := hp
  subst hn
  refine (hz.pm.pAdd (B := B) id hid A _ c l (hz.rd _ hb).1 hn9).mono ?_
  rintro e w' ⟨rfl, U2, X2, q1, q2⟩
  exact ⟨rfl, hz.go q1 q2⟩
theorem PS.mAdd (hp : PS B U X w w1 g h bx by_ sp sr wr) (hw : WF sr) (id : Int) (hid : Go.Mem.I64 id) {A : Option Addr} {l : List UInt8} (hb : (A, l) ∈ by_) (n c : Nat) (hn : l.length = n) (hnc : n ≤ c) (hcm : c ≤ maxLen) (hB : ∀ k, blk A = some k → B k) : Calls Try.prog 21 #[.pointer (some ⟨h, 0, none⟩), .int .i64 id, .slice A n c] wr fun e w' => e = .returned (.int .i64 (Pl.add sr id l).2) ∧ PS B U X w w1 g h bx by_ sp (Pl.add sr id l).1 w' := by
  obtain ⟨U', X', hz⟩ := hp
  subst hn
  refine (hz.pm.mAdd hw id hid A _ c l (hz.rd _ hb).1 hnc hcm (hz.rd _ hb).2 hB).mono ?_
  rintro e w' ⟨rfl, U2, X2, q1, q2⟩
  exact ⟨rfl, hz.go q1 q2⟩
theorem PS.pAsk (hp : PS B U X w w1 g h bx by_ sp sr wr) (worker tick : Int) (hN : sp.tries.length ≤ 1000000) : Calls Try.prog 14 #[.pointer (some ⟨g, 0, none⟩), .int .i64 worker, .int .i64 tick] wr fun e w' => ∃ A c, e = .returned (.tuple #[.agg #[.int .i64 (Pl.ask sp worker tick).2.id, .slice A (Pl.ask sp worker tick).2.body.length c], .int .i64 (Pl.ask sp worker tick).2.num, .bool (Pl.ask sp worker tick).2.is, .int .i64 (Pl.ask sp worker tick).2.err]) ∧
    PS B U X w w1 g h bx ((A, (Pl.ask sp worker tick).2.body) :: by_) (Pl.ask sp worker tick).1 sr w' := by
  obtain ⟨U', X', hz⟩ := hp
  refine (hz.pm.pAsk (B := B) worker tick hN).mono ?_
  rintro e w' ⟨A, c, rfl, r1, U2, X2, q1, q2, q3⟩
  obtain ⟨U3, X3, hy⟩ := hz.go q1 q2
  have hz2 : PSz U2 X2 B U X w w1 g h bx by_ (Pl.ask sp worker tick).1 sr w' := by
    refine ⟨q1, hz.st.trans q2, fun b hb => ?_, fun b hb => ?_⟩
    · obtain ⟨q4, q5⟩ := hz.bx b hb
      refine ⟨q4.chg q2.chg q5, fun hu => ?_⟩
      rcases q2.own _ hu with h | h
      · exact q5 h
      · have := q4.lt; omega
    · obtain ⟨q4, q5⟩ := hz.rd b hb
      refine ⟨q4.chg q2.chg (fun k hk _ => (q5 k hk).2), fun k hk => ⟨Nat.lt_of_lt_of_le (q5 k hk).1 q2.chg.size, fun hu => ?_⟩⟩
      rcases q2.own _ hu with h | h
      · exact (q5 k hk).2 h
      · have := (q5 k hk).1; omega
  exact ⟨A, c, rfl, U2, X2, hz2.pm, hz2.st, hz2.bx, fun b hb => by
    rcases List.mem_cons.1 hb with rfl | hb
    · exact ⟨r1, q3⟩
    · exact hz2.rd b hb⟩
theorem PS.mAsk (hp : PS B U X w w1 g h bx by_ sp sr wr) (hw : WF sr) (hN : sr.tries.length ≤ 1000000) (worker tick : Int) : Calls Try.prog 22 #[.pointer (some ⟨h, 0, none⟩), .int .i64 worker, .int .i64 tick] wr fun e w' => e = .returned (.tuple #[.int .i64 (Pl.ask sr worker tick).2.id, .int .i64 (Pl.ask sr worker tick).2.num, .bool (Pl.ask sr worker tick).2.is, .int .i64 (Pl.ask sr worker tick).2.err]) ∧ PS B U X w w1 g h bx by_ sp (Pl.ask sr worker tick).1 w' := by
  obtain ⟨U', X', hz⟩ := hp
  refine (hz.pm.mAsk (B := B) hw hN worker tick).mono ?_
  rintro e w' ⟨rfl, U2, X2, q1, q2⟩
  exact ⟨rfl, hz.go q1 q2⟩
theorem PS.pAnswer (hp : PS B U X w w1 g h bx by_ sp sr wr) (task worker num tick : Int) (htask : Go.Mem.I64 task) (hnum : Go.Mem.I64 num) {A : Option Addr} {l : List UInt8} (hb : (A, l) ∈ by_) (n c : Nat) (hn : l.length = n) (hn9 : n ≤ 1000000000) : Calls Try.prog 15 #[.pointer (some ⟨g, 0, none⟩), .agg #[.int .i64 task, .int .i64 worker, .int .i64 num, .slice A n c], .int .i64 tick] wr fun e w' => e = .returned (.tuple #[.bool (Pl.answer sp task worker num l tick).2.1, .int .i64 (Pl.answer sp task worker num l tick).2.2]) ∧ PS B U X w w1 g h bx by_ (Pl.answer sp task worker num l tick).1 sr w' := by
  obtain ⟨U', X', hz⟩ := hp
  subst hn
  refine (hz.pm.pAnswer (B := B) task worker num tick htask hnum A _ c l (hz.rd _ hb).1 hn9 (fun k hk => ((hz.rd _ hb).2 k hk).2)).mono ?_
  rintro e w' ⟨rfl, U2, X2, q1, q2⟩
  exact ⟨rfl, hz.go q1 q2⟩
theorem PS.mAnswer (hp : PS B U X w w1 g h bx by_ sp sr wr) (hw : WF sr) (hN : sr.tries.length ≤ 1000000) (task worker num tick : Int) {A : Option Addr} {l : List UInt8} (hb : (A, l) ∈ by_) (n c : Nat) (hn : l.length = n) (hnc : n ≤ c) (hcm : c ≤ maxLen) (hB : ∀ k, blk A = some k → B k) : Calls Try.prog 23 #[.pointer (some ⟨h, 0, none⟩), .int .i64 task, .int .i64 worker, .int .i64 num, .slice A n c, .int .i64 tick] wr fun e w' => e = .returned (.tuple #[.bool (Pl.answer sr task worker num l tick).2.1, .int .i64 (Pl.answer sr task worker num l tick).2.2]) ∧ PS B U X w w1 g h bx by_ sp (Pl.answer sr task worker num l tick).1 w' := by
  obtain ⟨U', X', hz⟩ := hp
  subst hn
  refine (hz.pm.mAnswer hw hN task worker num tick A _ c l (hz.rd _ hb).1 hnc hcm (hz.rd _ hb).2 hB).mono ?_
  rintro e w' ⟨rfl, U2, X2, q1, q2⟩
  exact ⟨rfl, hz.go q1 q2⟩
theorem PS.pRevive (hp : PS B U X w w1 g h bx by_ sp sr wr) (worker : Int) : Calls Try.prog 26 #[.pointer (some ⟨g, 0, none⟩), .int .i64 worker] wr fun e w' => e = .returned (.int .i64 (revive sp worker).2) ∧ PS B U X w w1 g h bx by_ (revive sp worker).1 sr w' := by
  obtain ⟨U', X', hz⟩ := hp
  refine (hz.pm.pRevive (B := B) worker).mono ?_
  rintro e w' ⟨rfl, U2, X2, q1, q2⟩
  exact ⟨rfl, hz.go q1 q2⟩
theorem PS.mRevive (hp : PS B U X w w1 g h bx by_ sp sr wr) (hw : WF sr) (worker : Int) : Calls Try.prog 27 #[.pointer (some ⟨h, 0, none⟩), .int .i64 worker] wr fun e w' => e = .returned (.int .i64 (revive sr worker).2) ∧ PS B U X w w1 g h bx by_ sp (revive sr worker).1 w' := by
  obtain ⟨U', X', hz⟩ := hp
  refine (hz.pm.mRevive (B := B) hw worker).mono ?_
  rintro e w' ⟨rfl, U2, X2, q1, q2⟩
  exact ⟨rfl, hz.go q1 q2⟩
theorem PS.pDie (hp : PS B U X w w1 g h bx by_ sp sr wr) (worker tick : Int) : Calls Try.prog 24 #[.pointer (some ⟨g, 0, none⟩), .int .i64 worker, .int .i64 tick] wr fun e w' => e = .returned (.int .i64 (Pl.die sp worker tick).2) ∧ PS B U X w w1 g h bx by_ (Pl.die sp worker tick).1 sr w' := by
  obtain ⟨U', X', hz⟩ := hp
  refine (hz.pm.pDie (B := B) worker tick).mono ?_
  rintro e w' ⟨rfl, U2, X2, q1, q2⟩
  exact ⟨rfl, hz.go q1 q2⟩
theorem PS.mDie (hp : PS B U X w w1 g h bx by_ sp sr wr) (hw : WF sr) (hN : sr.tries.length ≤ 1000000) (worker tick : Int) : Calls Try.prog 25 #[.pointer (some ⟨h, 0, none⟩), .int .i64 worker, .int .i64 tick] wr fun e w' => e = .returned (.int .i64 (Pl.die sr worker tick).2) ∧ PS B U X w w1 g h bx by_ sp (Pl.die sr worker tick).1 w' := by
  obtain ⟨U', X', hz⟩ := hp
  refine (hz.pm.mDie (B := B) hw hN worker tick).mono ?_
  rintro e w' ⟨rfl, U2, X2, q1, q2⟩
  exact ⟨rfl, hz.go q1 q2⟩
theorem PS.mFind (hp : PS B U X w w1 g h bx by_ sp sr wr) (id : Int) : Calls Try.prog 50 #[.pointer (some ⟨h, 0, none⟩), .int .i64 id] wr fun e w' => e = .returned (.int .i64 (find sr id)) ∧ w' = wr := by
  obtain ⟨U', X', hz⟩ := hp
  exact hz.pm.mFind id
end
/-- A task that was given out has its bytes. -/
theorem ask_find {s : S} {worker tick : Int} (hw : WF (Pl.ask s worker tick).1) (h : (Pl.ask s worker tick).2.is = true) : ∃ (i : Nat) (j : Job), find (Pl.ask s worker tick).1 (Pl.ask s worker tick).2.id = (i : Int) ∧ (Pl.ask s worker tick).1.jobs[i]? = some j ∧ j.body = (Pl.ask s worker tick).2.body := by
  have key : ∃ j, j ∈ (Pl.ask s worker tick).1.jobs ∧ j.id = (Pl.ask s worker tick).2.id ∧ j.body = (Pl.ask s worker tick).2.body := by
    clear hw
    revert h
    unfold Pl.ask
    split
    · intro h; cases h
    · split
      · intro h; cases h
      · split
        · intro h; cases h
        · split
          · intro h; cases h
          · rename_i k hk
            split
            · intro h; cases h
            · rename_i j hj
              intro _
              obtain ⟨hlt, _⟩ := List.getElem?_eq_some_iff.1 hj
              refine ⟨{ j with n := j.n + 1 }, ?_, rfl, rfl⟩
              exact List.mem_of_getElem? (i := k) (show (s.jobs.set k { j with n := j.n + 1 })[k]? = _ by rw [List.getElem?_set_self hlt])
  obtain ⟨j, h1, h2, h3⟩ := key
  obtain ⟨k, h4, h5⟩ := find_at hw h1 h2
  exact ⟨k, j, h4, h5, h3⟩
end Go.Proofs.Ytbmplfhcdkeooaa
