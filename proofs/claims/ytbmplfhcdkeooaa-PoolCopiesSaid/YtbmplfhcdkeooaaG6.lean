/- The parts PmA, PmB, PmE of the proof, in one text. -/
import Derived.Test.YtbmplfhcdkeooaaRpGZ
import Derived.Test.YtbmplfhcdkeooaaPlRZ
import Derived.Test.YtbmplfhcdkeooaaPureScr
import Derived.Test.YtbmplfhcdkeooaaScrAZ
import Derived.Test.YtbmplfhcdkeooaaRpDZ
set_option linter.unusedSimpArgs false
set_option linter.unusedVariables false

namespace Go.Proofs.Ytbmplfhcdkeooaa
set_option linter.unusedVariables false
open Go.RowKit Go.Mem Go.Pl

structure PMz (m : Nat) (dv : Value) (V : Int → Loc) (T : Nat → Prop) (al jv tv : Value) (TR : Nat → Prop) (w : World) (g h : Nat) (sp sr : S) (wr : World) : Prop where
  new : New w wr
  pi : PI wr g m dv V T sp
  rf : RI wr h al jv tv TR sr
  b1 : ∀ k, ownP g m dv V sp k → w.heap.size ≤ k
  b2 : ∀ k, ownR h al jv tv k → w.heap.size ≤ k
  d1 : ∀ k, ownP g m dv V sp k → ¬ ownR h al jv tv k ∧ ¬ TR k
  d2 : ∀ k, ownR h al jv tv k → ¬ T k
/-- The pool at g (sp), the model at h (sr), made after w. U: the blocks that they change; X: these and the bytes that they keep. -/
def PM (U X : Nat → Prop) (w : World) (g h : Nat) (sp sr : S) (wr : World) : Prop := ∃ m dv V T al jv tv TR, PMz m dv V T al jv tv TR w g h sp sr wr ∧ U = (fun k => ownP g m dv V sp k ∨ ownR h al jv tv k) ∧ X = (fun k => (ownP g m dv V sp k ∨ T k) ∨ (ownR h al jv tv k ∨ TR k))
/-- What a call leaves; B: the blocks of the bytes that it was handed. -/
structure PMStep (B U X U' X' : Nat → Prop) (wr w' : World) : Prop where
  chg : Chg U wr w'
  sub : ∀ k, U k → X k
  own : ∀ k, U' k → U k ∨ wr.heap.size ≤ k
  all : ∀ k, X' k → X k ∨ wr.heap.size ≤ k ∨ B k
section
variable {w w1 w2 w' : World} {g h : Nat} {s sp sr sp' sr' : S} {U X U' X' U'' X'' B : Nat → Prop}
theorem PMStep.trans (h1 : PMStep B U X U' X' w1 w2) (h2 : PMStep B U' X' U'' X'' w2 w') : PMStep B U X U'' X'' w1 w' :=
  ⟨h1.chg.trans h2.chg (fun k hk hu => by
    rcases h1.own k hu with h | h
    · exact h
    · omega), h1.sub, fun k hk => by
    rcases h2.own k hk with h | h
    · exact h1.own k h
    · exact .inr (Nat.le_trans h1.chg.size h), fun k hk => by
    rcases h2.all k hk with h | h | h
    · exact h1.all k h
    · exact .inr (.inl (Nat.le_trans h1.chg.size h))
    · exact .inr (.inr h)⟩
theorem PMStep.mono {B' : Nat → Prop} (h1 : PMStep B U X U' X' w1 w2) (hB : ∀ k, B k → B' k) : PMStep B' U X U' X' w1 w2 :=
  ⟨h1.chg, h1.sub, h1.own, fun k hk => (h1.all k hk).imp (fun h => h) (Or.imp (fun h => h) (hB k))⟩
theorem PMStep.pstep (h1 : PMStep B U X U' X' w1 w2) : PStep w1 w2 U U' := ⟨h1.chg, h1.own⟩
theorem PM.sub (hp : PM U X w g h sp sr w1) : ∀ k, U k → X k := by
  obtain ⟨m, dv, V, T, al, jv, tv, TR, hz, rfl, rfl⟩ := hp
  intro k hk
  rcases hk with hk | hk
  · exact .inl (.inl hk)
  · exact .inr (.inl hk)
theorem PM.was (hp : PM U X w g h sp sr w1) : New w w1 := by
  obtain ⟨m, dv, V, T, al, jv, tv, TR, hz, rfl, rfl⟩ := hp
  exact hz.new
theorem PM.lt (hp : PM U X w g h sp sr w1) {k : Nat} (hk : X k) : k < w1.heap.size := by
  obtain ⟨m, dv, V, T, al, jv, tv, TR, hz, rfl, rfl⟩ := hp
  rcases hk with (hk | hk) | (hk | hk)
  · exact hz.pi.lt hk
  · exact (hz.pi.sep k hk).1
  · exact hz.rf.lt hk
  · exact (hz.rf.sep k hk).1
theorem PM.base (hp : PM U X w g h sp sr w1) {k : Nat} (hk : U k) : w.heap.size ≤ k := by
  obtain ⟨m, dv, V, T, al, jv, tv, TR, hz, rfl, rfl⟩ := hp
  rcases hk with hk | hk
  · exact hz.b1 k hk
  · exact hz.b2 k hk
theorem PM.wf (hp : PM U X w g h sp sr w1) : WF sp := by
  obtain ⟨m, dv, V, T, al, jv, tv, TR, hz, rfl, rfl⟩ := hp
  exact hz.pi.wf
/-- Blocks that are not theirs change. -/
theorem PM.chg {Y : Nat → Prop} (hp : PM U X w g h sp sr w1) (hc : Chg Y w1 w2) (hw : ∀ k, Y k → w.heap.size ≤ k) (hY : ∀ k, X k → ¬ Y k) : PM U X w g h sp sr w2 := by
  obtain ⟨m, dv, V, T, al, jv, tv, TR, hz, rfl, rfl⟩ := hp
  exact ⟨m, dv, V, T, al, jv, tv, TR, ⟨hz.new.trans hc (fun k hk hu => by have := hw k hu; omega), hz.pi.chg hc (fun k hk => hY k (.inl (.inl hk))) (fun k hk => hY k (.inl (.inr hk))), hz.rf.chg hc (fun k hk => hY k (.inr (.inl hk))) (fun k hk => hY k (.inr (.inr hk))), hz.b1, hz.b2, hz.d1, hz.d2⟩, rfl, rfl⟩
theorem PM.new (hp : PM U X w g h sp sr w1) (hn : New w1 w2) : PM U X w g h sp sr w2 := hp.chg hn (fun _ hf => hf.elim) (fun _ _ hf => hf)
theorem PMStep.of_new (hp : PM U X w g h sp sr w1) (hn : New w1 w2) : PMStep B U X U X w1 w2 := ⟨hn.mono (fun _ _ hf => hf.elim), hp.sub, fun k hk => .inl hk, fun k hk => .inl hk⟩
/-- The pool has changed. -/
theorem PMz.did {m : Nat} {dv : Value} {V V' : Int → Loc} {T : Nat → Prop} {al jv tv : Value} {TR : Nat → Prop} (hz : PMz m dv V T al jv tv TR w g h sp sr w1) (h5 : PI w2 g m dv V' (TP w1 w2 g m dv V' T sp') sp') (h6 : DidP w1 w2 g m dv V V' sp sp') :
    PM (fun k => ownP g m dv V' sp' k ∨ ownR h al jv tv k) (fun k => (ownP g m dv V' sp' k ∨ TP w1 w2 g m dv V' T sp' k) ∨ (ownR h al jv tv k ∨ TR k)) w g h sp' sr w2 ∧ PMStep B (fun k => ownP g m dv V sp k ∨ ownR h al jv tv k) (fun k => (ownP g m dv V sp k ∨ T k) ∨ (ownR h al jv tv k ∨ TR k)) (fun k => ownP g m dv V' sp' k ∨ ownR h al jv tv k) (fun k => (ownP g m dv V' sp' k ∨ TP w1 w2 g m dv V' T sp' k) ∨ (ownR h al jv tv k ∨ TR k)) w1 w2 := by
  refine ⟨⟨m, dv, V', _, al, jv, tv, TR, ⟨hz.new.trans h6.chg (fun k hk hu => by have := hz.b1 k hu; omega), h5, hz.rf.chg h6.chg (fun k hk ho => (hz.d1 k ho).1 hk) (fun k hk ho => (hz.d1 k ho).2 hk), fun k hk => ?_, hz.b2, fun k hk => ?_, fun k hk ht => ?_⟩, rfl, rfl⟩, h6.chg.mono (fun k _ ho => .inl ho), fun k hk => ?_, fun k hk => ?_, fun k hk => ?_⟩
  · rcases h6.own k hk with h7 | h7
    · exact hz.b1 k h7
    · exact Nat.le_trans hz.new.size h7
  · rcases h6.own k hk with h7 | h7
    · exact hz.d1 k h7
    · exact ⟨fun ho => by have := hz.rf.lt ho; omega, fun ht => by have := (hz.rf.sep k ht).1; omega⟩
  · rcases ht with ht | ⟨ht, _⟩
    · exact hz.d2 k hk ht
    · have := hz.rf.lt hk; omega
  · rcases hk with hk | hk
    · exact .inl (.inl hk)
    · exact .inr (.inl hk)
  · rcases hk with hk | hk
    · rcases h6.own k hk with h7 | h7
      · exact .inl (.inl h7)
      · exact .inr h7
    · exact .inl (.inr hk)
  · rcases hk with (hk | hk | ⟨hk, _⟩) | hk
    · rcases h6.own k hk with h7 | h7
      · exact .inl (.inl (.inl h7))
      · exact .inr (.inl h7)
    · exact .inl (.inl (.inr hk))
    · exact .inr (.inl hk)
    · exact .inl (.inr hk)
/-- The model has changed. -/
theorem PMz.didR {m : Nat} {dv : Value} {V : Int → Loc} {T : Nat → Prop} {al jv tv jv' tv' : Value} {TR TR' : Nat → Prop} (hz : PMz m dv V T al jv tv TR w g h sp sr w1) (h5 : RI w2 h al jv' tv' TR' sr') (hc : Chg (ownR h al jv tv) w1 w2) (ho : ∀ k, ownR h al jv' tv' k → ownR h al jv tv k ∨ w1.heap.size ≤ k) (ht : ∀ k, TR' k → TR k ∨ B k) (hB : ∀ k, B k → ¬ ownP g m dv V sp k) :
    ∃ U' X', PM U' X' w g h sp sr' w2 ∧ PMStep B (fun k => ownP g m dv V sp k ∨ ownR h al jv tv k) (fun k => (ownP g m dv V sp k ∨ T k) ∨ (ownR h al jv tv k ∨ TR k)) U' X' w1 w2 := by
  refine ⟨_, _, ⟨m, dv, V, T, al, jv', tv', TR', ⟨hz.new.trans hc (fun k hk hu => by have := hz.b2 k hu; omega), hz.pi.chg hc (fun k hk hu => (hz.d1 k hk).1 hu) (fun k hk hu => hz.d2 k hu hk), h5, hz.b1, fun k hk => ?_, fun k hk => ⟨fun hu => ?_, fun htr => ?_⟩, fun k hk htt => ?_⟩, rfl, rfl⟩, hc.mono (fun k _ hu => .inr hu), fun k hk => ?_, fun k hk => ?_, fun k hk => ?_⟩
  · rcases ho k hk with h7 | h7
    · exact hz.b2 k h7
    · exact Nat.le_trans hz.new.size h7
  · rcases ho k hu with h7 | h7
    · exact (hz.d1 k hk).1 h7
    · have := hz.pi.lt hk; omega
  · rcases ht k htr with h7 | h7
    · exact (hz.d1 k hk).2 h7
    · exact hB k h7 hk
  · rcases ho k hk with h7 | h7
    · exact hz.d2 k h7 htt
    · have := (hz.pi.sep k htt).1; omega
  · rcases hk with hk | hk
    · exact .inl (.inl hk)
    · exact .inr (.inl hk)
  · rcases hk with hk | hk
    · exact .inl (.inl hk)
    · rcases ho k hk with h7 | h7
      · exact .inl (.inr h7)
      · exact .inr h7
  · rcases hk with hk | hk | hk
    · exact .inl (.inl hk)
    · rcases ho k hk with h7 | h7
      · exact .inl (.inr (.inl h7))
      · exact .inr (.inl h7)
    · rcases ht k hk with h7 | h7
      · exact .inl (.inr (.inr h7))
      · exact .inr (.inr h7)
/-! ### the calls of the pool -/
theorem PM.pAdd (hp : PM U X w g h sp sr w1) (id : Int) (hid : Go.Mem.I64 id) (A : Option Addr) (n c : Nat) (l : List UInt8) (hr : Rd w1 A n (bs l)) (hn : n ≤ 1000000000) : Calls Try.prog 12 #[.pointer (some ⟨g, 0, none⟩), .agg #[.int .i64 id, .slice A n c]] w1 fun e w' => e = .returned (.int .i64 (Pl.add sp id l).2) ∧ ∃ U' X', PM U' X' w g h (Pl.add sp id l).1 sr w' ∧ PMStep B U X U' X' w1 w' := by
  obtain ⟨m, dv, V, T, al, jv, tv, TR, hz, rfl, rfl⟩ := hp
  refine (plAdd_any g m dv V T sp w1 hz.pi id hid A n c l hr hn).mono ?_
  rintro e w' ⟨rfl, V', h5, h6⟩
  exact ⟨rfl, _, _, hz.did h5 h6⟩
theorem PM.pAsk (hp : PM U X w g h sp sr w1) (worker tick : Int) (hN : sp.tries.length ≤ 1000000) : Calls Try.prog 14 #[.pointer (some ⟨g, 0, none⟩), .int .i64 worker, .int .i64 tick] w1 fun e w' => ∃ A c, e = .returned (.tuple #[.agg #[.int .i64 (Pl.ask sp worker tick).2.id, .slice A (Pl.ask sp worker tick).2.body.length c], .int .i64 (Pl.ask sp worker tick).2.num, .bool (Pl.ask sp worker tick).2.is, .int .i64 (Pl.ask sp worker tick).2.err]) ∧
    Rd w' A (Pl.ask sp worker tick).2.body.length (bs (Pl.ask sp worker tick).2.body) ∧ ∃ U' X', PM U' X' w g h (Pl.ask sp worker tick).1 sr w' ∧ PMStep B U X U' X' w1 w' ∧ ∀ k, blk A = some k → k < w'.heap.size ∧ ¬ U' k := by
  obtain ⟨m, dv, V, T, al, jv, tv, TR, hz, rfl, rfl⟩ := hp
  refine (plAsk_any g m dv V T sp w1 hz.pi worker tick (by omega)).mono ?_
  rintro e w' ⟨A, c, rfl, V', ⟨A', c', hv, r1, r2, r3, r4⟩, h5, h6⟩
  injection hv with hA hn hc
  subst hA hc
  obtain ⟨q1, q2⟩ := hz.did (B := B) h5 h6
  exact ⟨A, c, rfl, r1, _, _, q1, q2, fun k hk => ⟨(r4 k hk).1, fun hu => by
    rcases hu with hu | hu
    · exact (r4 k hk).2.2 hu
    · have h1 := hz.rf.lt hu
      have h2 : w1.heap.size ≤ k := (r4 k hk).2.1
      omega⟩⟩
theorem PM.pAnswer (hp : PM U X w g h sp sr w1) (task worker num tick : Int) (htask : Go.Mem.I64 task) (hnum : Go.Mem.I64 num) (A : Option Addr) (n c : Nat) (l : List UInt8) (hr : Rd w1 A n (bs l)) (hn : n ≤ 1000000000) (hA : ∀ k, blk A = some k → ¬ U k) : Calls Try.prog 15 #[.pointer (some ⟨g, 0, none⟩), .agg #[.int .i64 task, .int .i64 worker, .int .i64 num, .slice A n c], .int .i64 tick] w1 fun e w' => e = .returned (.tuple #[.bool (Pl.answer sp task worker num l tick).2.1, .int .i64 (Pl.answer sp task worker num l tick).2.2]) ∧ ∃ U' X', PM U' X' w g h (Pl.answer sp task worker num l tick).1 sr w' ∧ PMStep B U X U' X' w1 w' := by
  obtain ⟨m, dv, V, T, al, jv, tv, TR, hz, rfl, rfl⟩ := hp
  refine (plAnswer_any g m dv V T sp w1 hz.pi task worker num tick htask hnum A n c l hr hn (fun k hk ho => hA k hk (.inl ho))).mono ?_
  rintro e w' ⟨rfl, V', h5, h6⟩
  exact ⟨rfl, _, _, hz.did h5 h6⟩
theorem PM.pRevive (hp : PM U X w g h sp sr w1) (worker : Int) : Calls Try.prog 26 #[.pointer (some ⟨g, 0, none⟩), .int .i64 worker] w1 fun e w' => e = .returned (.int .i64 (revive sp worker).2) ∧ ∃ U' X', PM U' X' w g h (revive sp worker).1 sr w' ∧ PMStep B U X U' X' w1 w' := by
  obtain ⟨m, dv, V, T, al, jv, tv, TR, hz, rfl, rfl⟩ := hp
  refine (plRevive_any g m dv V T sp w1 hz.pi worker).mono ?_
  rintro e w' ⟨rfl, h5, h6⟩
  exact ⟨rfl, _, _, hz.did h5 h6⟩
theorem PM.pDie (hp : PM U X w g h sp sr w1) (worker tick : Int) : Calls Try.prog 24 #[.pointer (some ⟨g, 0, none⟩), .int .i64 worker, .int .i64 tick] w1 fun e w' => e = .returned (.int .i64 (Pl.die sp worker tick).2) ∧ ∃ U' X', PM U' X' w g h (Pl.die sp worker tick).1 sr w' ∧ PMStep B U X U' X' w1 w' := by
  obtain ⟨m, dv, V, T, al, jv, tv, TR, hz, rfl, rfl⟩ := hp
  refine (plDie_any g m dv V T sp w1 hz.pi worker tick).mono ?_
  rintro e w' ⟨rfl, h5, h6⟩
  have hj : (Pl.die sp worker tick).1.jobs = sp.jobs := by
    by_cases hc : check sp worker tick = 0
    · cases ha : sp.alive.getD worker.toNat false with
      | true => rw [die_ok hc ha]
      | false => rw [die_dead hc ha]
    · rw [die_bad hc]
  have ho : ownP g m dv V (Pl.die sp worker tick).1 = ownP g m dv V sp := by funext x; unfold ownP; rw [hj]
  have hc : Chg (ownP g m dv V sp) w1 w' := h6.mono (fun x _ e => by
    rcases e with e | e | ⟨i, hi, e⟩
    · exact .inl e
    · exact .inr (.inr (.inl e))
    · exact .inr (.inr (.inr ⟨i, hi, .inr e⟩)))
  have hd : DidP w1 w' g m dv V V sp (Pl.die sp worker tick).1 := ⟨hc, fun k hk => .inl (by rw [← ho]; exact hk)⟩
  exact ⟨rfl, _, _, hz.did (h5.up (fun k hk ht => .inl ht) (DidP.sep hz.pi hd)) hd⟩
theorem PM.pOpen (hp : PM U X w g h sp sr w1) : Calls Try.prog 13 #[.pointer (some ⟨g, 0, none⟩)] w1 fun e w' => ∃ A c, e = .returned (.slice A (opens sp).length c) ∧ w'.ownsRow w1.heap.size 3 1 (.slice A (opens sp).length c) (opens sp).length (is (opens sp)) ∧ New w1 w' := by
  obtain ⟨m, dv, V, T, al, jv, tv, TR, hz, rfl, rfl⟩ := hp
  exact plOpen_any g m dv V T sp w1 hz.pi
theorem PM.pDone (hp : PM U X w g h sp sr w1) : Calls Try.prog 28 #[.pointer (some ⟨g, 0, none⟩)] w1 fun e w' => ∃ A c, e = .returned (.slice A (dones sp).length c) ∧ LateV w' (fun _ => False) (.slice A (dones sp).length c) (dones sp) ∧ New w1 w' := by
  obtain ⟨m, dv, V, T, al, jv, tv, TR, hz, rfl, rfl⟩ := hp
  refine (plDone_any g m dv V T sp w1 hz.pi).mono ?_
  rintro e w' ⟨v, rfl, h5, h6⟩
  obtain ⟨css, q1, q2, q3⟩ := h5
  obtain ⟨A, c, rfl, _⟩ := ownN_shape q1
  refine ⟨A, c, rfl, ⟨css, ownN_base q1 (Nat.zero_le _), q2, fun j d hd => ?_, fun _ _ h => h⟩, h6⟩
  obtain ⟨cs, r1, r2⟩ := q3 j d hd
  exact ⟨cs, r1, r2.chg (Chg.refl (fun _ => False) _) (fun _ _ _ h => h) (fun k _ hk => ⟨fun h => h, hk.2⟩)⟩
/-! ### the calls of the model -/
theorem PM.mAdd (hp : PM U X w g h sp sr w1) (hw : WF sr) (id : Int) (hid : Go.Mem.I64 id) (A : Option Addr) (n c : Nat) (l : List UInt8) (hr : Rd w1 A n (bs l)) (hnc : n ≤ c) (hcm : c ≤ maxLen) (hA : ∀ k, blk A = some k → k < w1.heap.size ∧ ¬ U k) (hB : ∀ k, blk A = some k → B k) : Calls Try.prog 21 #[.pointer (some ⟨h, 0, none⟩), .int .i64 id, .slice A n c] w1 fun e w' => e = .returned (.int .i64 (Pl.add sr id l).2) ∧ ∃ U' X', PM U' X' w g h sp (Pl.add sr id l).1 w' ∧ PMStep B U X U' X' w1 w' := by
  obtain ⟨m, dv, V, T, al, jv, tv, TR, hz, rfl, rfl⟩ := hp
  have hl : l.length = n := by have := hr.len; rwa [bs_length] at this
  subst hl
  have hup : RI w1 h al jv tv (fun k => TR k ∨ blk A = some k) sr := hz.rf.up (fun k _ ht => .inl ht) (fun k hk => by
    rcases hk with hk | hk
    · exact hz.rf.sep k hk
    · exact ⟨(hA k hk).1, fun ho => (hA k hk).2 (.inr ho)⟩)
  refine (rAdd_any hup hw id hid A l.length c l ⟨A, c, rfl, hr, hnc, hcm, fun k hk => ⟨(hA k hk).1, .inr hk⟩⟩).mono ?_
  rintro e w' ⟨rfl, jv', h5, h6, h7⟩
  obtain ⟨U', X', q1, q2⟩ := hz.didR (B := fun k => blk A = some k) h5 (h6.mono (fun k _ e => .inl e)) (fun k hk => by
    rcases hk with hk | hk | hk | hk
    · exact .inl (.inl hk)
    · exact .inl (.inr (.inl hk))
    · rcases h7 k hk with h8 | h8
      · exact .inl (.inr (.inr (.inl h8)))
      · exact .inr h8
    · exact .inl (.inr (.inr (.inr hk)))) (fun k hk => hk) (fun k hk ho => (hA k hk).2 (.inl ho))
  exact ⟨rfl, U', X', q1, q2.mono hB⟩
theorem PM.mAnswer (hp : PM U X w g h sp sr w1) (hw : WF sr) (hN : sr.tries.length ≤ 1000000) (task worker num tick : Int) (A : Option Addr) (n c : Nat) (l : List UInt8) (hr : Rd w1 A n (bs l)) (hnc : n ≤ c) (hcm : c ≤ maxLen) (hA : ∀ k, blk A = some k → k < w1.heap.size ∧ ¬ U k) (hB : ∀ k, blk A = some k → B k) : Calls Try.prog 23 #[.pointer (some ⟨h, 0, none⟩), .int .i64 task, .int .i64 worker, .int .i64 num, .slice A n c, .int .i64 tick] w1 fun e w' => e = .returned (.tuple #[.bool (Pl.answer sr task worker num l tick).2.1, .int .i64 (Pl.answer sr task worker num l tick).2.2]) ∧ ∃ U' X', PM U' X' w g h sp (Pl.answer sr task worker num l tick).1 w' ∧ PMStep B U X U' X' w1 w' := by
  obtain ⟨m, dv, V, T, al, jv, tv, TR, hz, rfl, rfl⟩ := hp
  have hl : l.length = n := by have := hr.len; rwa [bs_length] at this
  subst hl
  have hup : RI w1 h al jv tv (fun k => TR k ∨ blk A = some k) sr := hz.rf.up (fun k _ ht => .inl ht) (fun k hk => by
    rcases hk with hk | hk
    · exact hz.rf.sep k hk
    · exact ⟨(hA k hk).1, fun ho => (hA k hk).2 (.inr ho)⟩)
  refine (rAnswer_any hup hw hN task worker num tick A l.length c l ⟨A, c, rfl, hr, hnc, hcm, fun k hk => ⟨(hA k hk).1, .inr hk⟩⟩).mono ?_
  rintro e w' ⟨rfl, h5, h6⟩
  obtain ⟨U', X', q1, q2⟩ := hz.didR (B := fun k => blk A = some k) h5 h6 (fun k hk => .inl hk) (fun k hk => hk) (fun k hk ho => (hA k hk).2 (.inl ho))
  exact ⟨rfl, U', X', q1, q2.mono hB⟩
theorem PM.mAsk (hp : PM U X w g h sp sr w1) (hw : WF sr) (hN : sr.tries.length ≤ 1000000) (worker tick : Int) : Calls Try.prog 22 #[.pointer (some ⟨h, 0, none⟩), .int .i64 worker, .int .i64 tick] w1 fun e w' => e = .returned (.tuple #[.int .i64 (Pl.ask sr worker tick).2.id, .int .i64 (Pl.ask sr worker tick).2.num, .bool (Pl.ask sr worker tick).2.is, .int .i64 (Pl.ask sr worker tick).2.err]) ∧ ∃ U' X', PM U' X' w g h sp (Pl.ask sr worker tick).1 w' ∧ PMStep B U X U' X' w1 w' := by
  obtain ⟨m, dv, V, T, al, jv, tv, TR, hz, rfl, rfl⟩ := hp
  refine (rAsk_any hz.rf hw hN worker tick).mono ?_
  rintro e w' ⟨rfl, tv', h5, h6, h7⟩
  obtain ⟨U', X', q1, q2⟩ := hz.didR (B := fun _ => False) h5 h6 (fun k hk => by
    rcases hk with hk | hk | hk | hk
    · exact .inl (.inl hk)
    · exact .inl (.inr (.inl hk))
    · exact .inl (.inr (.inr (.inl hk)))
    · rcases h7 k hk with h8 | h8
      · exact .inl (.inr (.inr (.inr h8)))
      · exact .inr h8) (fun k hk => .inl hk) (fun k hk => hk.elim)
  exact ⟨rfl, U', X', q1, q2.mono (fun k hk => hk.elim)⟩
theorem PM.mRevive (hp : PM U X w g h sp sr w1) (hw : WF sr) (worker : Int) : Calls Try.prog 27 #[.pointer (some ⟨h, 0, none⟩), .int .i64 worker] w1 fun e w' => e = .returned (.int .i64 (revive sr worker).2) ∧ ∃ U' X', PM U' X' w g h sp (revive sr worker).1 w' ∧ PMStep B U X U' X' w1 w' := by
  obtain ⟨m, dv, V, T, al, jv, tv, TR, hz, rfl, rfl⟩ := hp
  refine (rRevive_any hz.rf hw.al.2 worker).mono ?_
  rintro e w' ⟨rfl, h5, h6⟩
  obtain ⟨U', X', q1, q2⟩ := hz.didR (B := fun _ => False) h5 h6 (fun k hk => .inl hk) (fun k hk => .inl hk) (fun k hk => hk.elim)
  exact ⟨rfl, U', X', q1, q2.mono (fun k hk => hk.elim)⟩
theorem PM.mDie (hp : PM U X w g h sp sr w1) (hw : WF sr) (hN : sr.tries.length ≤ 1000000) (worker tick : Int) : Calls Try.prog 25 #[.pointer (some ⟨h, 0, none⟩), .int .i64 worker, .int .i64 tick] w1 fun e w' => e = .returned (.int .i64 (Pl.die sr worker tick).2) ∧ ∃ U' X', PM U' X' w g h sp (Pl.die sr worker tick).1 w' ∧ PMStep B U X U' X' w1 w' := by
  obtain ⟨m, dv, V, T, al, jv, tv, TR, hz, rfl, rfl⟩ := hp
  refine (rDie_any hz.rf hw hN worker tick).mono ?_
  rintro e w' ⟨rfl, h5, h6⟩
  obtain ⟨U', X', q1, q2⟩ := hz.didR (B := fun _ => False) h5 h6 (fun k hk => .inl hk) (fun k hk => .inl hk) (fun k hk => hk.elim)
  exact ⟨rfl, U', X', q1, q2.mono (fun k hk => hk.elim)⟩
theorem PM.mOpen (hp : PM U X w g h sp sr w1) (hw : WF sr) : Calls Try.prog 52 #[.pointer (some ⟨h, 0, none⟩)] w1 fun e w' => ∃ A c, e = .returned (.slice A (opens sr).length c) ∧ w'.ownsRow w1.heap.size 3 1 (.slice A (opens sr).length c) (opens sr).length (is (opens sr)) ∧ New w1 w' := by
  obtain ⟨m, dv, V, T, al, jv, tv, TR, hz, rfl, rfl⟩ := hp
  exact rOpen_any hz.rf hw.len
theorem PM.mFind (hp : PM U X w g h sp sr w1) (id : Int) : Calls Try.prog 50 #[.pointer (some ⟨h, 0, none⟩), .int .i64 id] w1 fun e w' => e = .returned (.int .i64 (find sr id)) ∧ w' = w1 := by
  obtain ⟨m, dv, V, T, al, jv, tv, TR, hz, rfl, rfl⟩ := hp
  exact rFind_any hz.rf id
/-- The model's cells. -/
theorem PM.rf (hp : PM U X w g h sp sr w1) : ∃ al jv tv TR, RI w1 h al jv tv TR sr ∧ ∀ k, ownR h al jv tv k → U k := by
  obtain ⟨m, dv, V, T, al, jv, tv, TR, hz, rfl, rfl⟩ := hp
  exact ⟨al, jv, tv, TR, hz.rf, fun k hk => .inr hk⟩
end
end Go.Proofs.Ytbmplfhcdkeooaa

namespace Go.Proofs.Ytbmplfhcdkeooaa
set_option linter.unusedVariables false
open Go.RowKit Go.Mem Go.Pl

def pickT (s : S) (o : OpP) : Int × Int × Int :=
  if 0 < s.tries.length ∧ 0 < o.n % 5 then (match s.tries[(o.n % s.tries.length).toNat]? with
    | some t => (t.task, t.worker, t.num)
    | none => (0, 0, 0)) else (o.n % 13, o.worker, o.n / 13)
/-- What an operation makes of a state. -/
def stepS (s : S) (o : OpP) : S :=
  if o.kind = 0 then (add s o.n o.body).1 else if o.kind = 1 then (Pl.ask s o.worker (s.tick + o.wait)).1 else
  if o.kind = 2 then (Pl.answer s (pickT s o).1 (pickT s o).2.1 (pickT s o).2.2 o.body (s.tick + o.wait)).1 else
  if o.kind = 3 then (Pl.die s o.worker (s.tick + o.wait)).1 else (revive s o.worker).1
structure Bxr where
  g : Nat
  t : TypeId
  cs : Array Value
/-- Since w1: a pool, a model, boxes, bytes. -/
structure PSz (U' X' : Nat → Prop) (B U X : Nat → Prop) (w w1 : World) (g h : Nat) (bx : List Bxr) (by_ : List (Option Addr × List UInt8)) (sp sr : S) (wr : World) : Prop where
  pm : PM U' X' w g h sp sr wr
  st : PMStep B U X U' X' w1 wr
  bx : ∀ b ∈ bx, Blk wr b.g b.t b.cs ∧ ¬ U' b.g
  rd : ∀ b ∈ by_, Rd wr b.1 b.2.length (bs b.2) ∧ ∀ k, blk b.1 = some k → k < wr.heap.size ∧ ¬ U' k
def PS (B U X : Nat → Prop) (w w1 : World) (g h : Nat) (bx : List Bxr) (by_ : List (Option Addr × List UInt8)) (sp sr : S) (wr : World) : Prop := ∃ U' X', PSz U' X' B U X w w1 g h bx by_ sp sr wr
section
variable {w w1 wr : World} {g h : Nat} {sp sr sp' sr' : S} {B U X U' X' U'' X'' : Nat → Prop} {bx : List Bxr} {by_ : List (Option Addr × List UInt8)}
theorem PSz.go (hz : PSz U' X' B U X w w1 g h bx by_ sp sr wr) {w' : World} (h1 : PM U'' X'' w g h sp' sr' w') (h2 : PMStep B U' X' U'' X'' wr w') : PS B U X w w1 g h bx by_ sp' sr' w' := by
  refine ⟨U'', X'', h1, hz.st.trans h2, fun b hb => ?_, fun b hb => ?_⟩
  · obtain ⟨q1, q2⟩ := hz.bx b hb
    refine ⟨q1.chg h2.chg q2, fun hu => ?_⟩
    rcases h2.own _ hu with h | h
    · exact q2 h
    · have := q1.lt; omega
  · obtain ⟨q1, q2⟩ := hz.rd b hb
    refine ⟨q1.chg h2.chg (fun k hk _ => (q2 k hk).2), fun k hk => ⟨Nat.lt_of_lt_of_le (q2 k hk).1 h2.chg.size, fun hu => ?_⟩⟩
    rcases h2.own _ hu with h | h
    · exact (q2 k hk).2 h
    · have := (q2 k hk).1; omega
theorem PS.start {s : S} (hp : PM U X w g h s s wr) (by_ : List (Option Addr × List UInt8)) (hr : ∀ b ∈ by_, Rd wr b.1 b.2.length (bs b.2) ∧ ∀ k, blk b.1 = some k → k < wr.heap.size ∧ ¬ U k) : PS B U X w wr g h [] by_ s s wr :=
  ⟨U, X, hp, PMStep.of_new hp (Chg.refl _ _), fun b hb => by simp at hb, hr⟩
theorem PS.new (hp : PS B U X w w1 g h bx by_ sp sr wr) {w' : World} (hn : New wr w') : PS B U X w w1 g h bx by_ sp sr w' := by
  obtain ⟨U', X', hz⟩ := hp
  exact hz.go (hz.pm.new hn) (PMStep.of_new hz.pm hn)
theorem PS.box (hp : PS B U X w w1 g h bx by_ sp sr wr) (t : TypeId) (cs : Array Value) : PS B U X w w1 g h (⟨wr.heap.size, t, cs⟩ :: bx) by_ sp sr (wr.alloc (.cells cs t)) := by
  obtain ⟨U', X', hz⟩ := hp
  have hn : New wr (wr.alloc (.cells cs t)) := (Chg.refl _ _).alloc _
  refine ⟨U', X', hz.pm.new hn, hz.st.trans (PMStep.of_new hz.pm hn), fun b hb => ?_, fun b hb => ?_⟩
  · rcases List.mem_cons.1 hb with rfl | hb
    · exact ⟨Blk.new _ _ _, fun hu => by have := hz.pm.lt (hz.pm.sub _ hu); dsimp only at this; omega⟩
    · obtain ⟨q1, q2⟩ := hz.bx b hb
      exact ⟨q1.chg hn (fun h => h), q2⟩
  · obtain ⟨q1, q2⟩ := hz.rd b hb
    exact ⟨q1.new hn, fun k hk => ⟨Nat.lt_of_lt_of_le (q2 k hk).1 hn.size, (q2 k hk).2⟩⟩
theorem PS.bx_at (hp : PS B U X w w1 g h bx by_ sp sr wr) {b : Bxr} (hb : b ∈ bx) : Blk wr b.g b.t b.cs := by
  obtain ⟨U', X', hz⟩ := hp
  exact (hz.bx b hb).1
theorem PS.rd_at (hp : PS B U X w w1 g h bx by_ sp sr wr) {b : Option Addr × List UInt8} (hb : b ∈ by_) : Rd wr b.1 b.2.length (bs b.2) := by
  obtain ⟨U', X', hz⟩ := hp
  exact (hz.rd b hb).1
theorem PS.wf (hp : PS B U X w w1 g h bx by_ sp sr wr) : WF sp := by
  obtain ⟨U', X', hz⟩ := hp
  exact hz.pm.wf
theorem PS.out (hp : PS B U X w w1 g h bx by_ sp sr wr) : ∃ U' X', PM U' X' w g h sp sr wr ∧ PMStep B U X U' X' w1 wr := by
  obtain ⟨U', X', hz⟩ := hp
  exact ⟨U', X', hz.pm, hz.st⟩
theorem PS.rf (hp : PS B U X w w1 g h bx by_ sp sr wr) : ∃ al jv tv TR, RI wr h al jv tv TR sr := by
  obtain ⟨U', X', hz⟩ := hp
  obtain ⟨al, jv, tv, TR, q, _⟩ := hz.pm.rf
  exact ⟨al, jv, tv, TR, q⟩
/-! ### calls -/
theorem PS.pAdd (hp : PS B U X w w1 g h bx by_ sp sr wr) (id : Int) (hid : Go.Mem.I64 id) {A : Option Addr} {l : List UInt8} (hb : (A, l) ∈ by_) (n c : Nat) (hn : l.length = n) (hn9 : n ≤ 1000000000) : Calls Try.prog 12 #[.pointer (some ⟨g, 0, none⟩), .agg #[.int .i64 id, .slice A n c]] wr fun e w' => e = .returned (.int .i64 (Pl.add sp id l).2) ∧ PS B U X w w1 g h bx by_ (Pl.add sp id l).1 sr w' := by
  obtain ⟨U', X', hz⟩ := hp
  subst hn
  refine (hz.pm.pAdd (B := B) id hid A _ c l (hz.rd _ hb).1 hn9).mono ?_
  rintro e w' ⟨rfl, U2, X2, q1, q2⟩
  exact ⟨rfl, hz.go q1 q2⟩
theorem PS.mAdd (hp : PS B U X w w1 g h bx by_ sp sr wr) (hw : WF sr) (id : Int) (hid : Go.Mem.I64 id) {A : Option Addr} {l : List UInt8} (hb : (A, l) ∈ by_) (n c : Nat) (hn : l.length = n) (hnc : n ≤ c) (hcm : c ≤ maxLen) (hB : ∀ k, blk A = some k → B k) : Calls Try.prog 21 #[.pointer (some ⟨h, 0, none⟩), .int .i64 id, .slice A n c] wr fun e w' => e = .returned (.int .i64 (Pl.add sr id l).2) ∧ PS B U X w w1 g h bx by_ sp (Pl.add sr id l).1 w' := by
  obtain ⟨U', X', hz⟩ := hp
  subst hn
  refine (hz.pm.mAdd hw id hid A _ c l (hz.rd _ hb).1 hnc hcm (hz.rd _ hb).2 hB).mono ?_
  rintro e w' ⟨rfl, U2, X2, q1, q2⟩
  exact ⟨rfl, hz.go q1 q2⟩
theorem PS.pAsk (hp : PS B U X w w1 g h bx by_ sp sr wr) (worker tick : Int) (hN : sp.tries.length ≤ 1000000) : Calls Try.prog 14 #[.pointer (some ⟨g, 0, none⟩), .int .i64 worker, .int .i64 tick] wr fun e w' => ∃ A c, e = .returned (.tuple #[.agg #[.int .i64 (Pl.ask sp worker tick).2.id, .slice A (Pl.ask sp worker tick).2.body.length c], .int .i64 (Pl.ask sp worker tick).2.num, .bool (Pl.ask sp worker tick).2.is, .int .i64 (Pl.ask sp worker tick).2.err]) ∧
    PS B U X w w1 g h bx ((A, (Pl.ask sp worker tick).2.body) :: by_) (Pl.ask sp worker tick).1 sr w' := by
  obtain ⟨U', X', hz⟩ := hp
  refine (hz.pm.pAsk (B := B) worker tick hN).mono ?_
  rintro e w' ⟨A, c, rfl, r1, U2, X2, q1, q2, q3⟩
  obtain ⟨U3, X3, hy⟩ := hz.go q1 q2
  have hz2 : PSz U2 X2 B U X w w1 g h bx by_ (Pl.ask sp worker tick).1 sr w' := by
    refine ⟨q1, hz.st.trans q2, fun b hb => ?_, fun b hb => ?_⟩
    · obtain ⟨q4, q5⟩ := hz.bx b hb
      refine ⟨q4.chg q2.chg q5, fun hu => ?_⟩
      rcases q2.own _ hu with h | h
      · exact q5 h
      · have := q4.lt; omega
    · obtain ⟨q4, q5⟩ := hz.rd b hb
      refine ⟨q4.chg q2.chg (fun k hk _ => (q5 k hk).2), fun k hk => ⟨Nat.lt_of_lt_of_le (q5 k hk).1 q2.chg.size, fun hu => ?_⟩⟩
      rcases q2.own _ hu with h | h
      · exact (q5 k hk).2 h
      · have := (q5 k hk).1; omega
  exact ⟨A, c, rfl, U2, X2, hz2.pm, hz2.st, hz2.bx, fun b hb => by
    rcases List.mem_cons.1 hb with rfl | hb
    · exact ⟨r1, q3⟩
    · exact hz2.rd b hb⟩
theorem PS.mAsk (hp : PS B U X w w1 g h bx by_ sp sr wr) (hw : WF sr) (hN : sr.tries.length ≤ 1000000) (worker tick : Int) : Calls Try.prog 22 #[.pointer (some ⟨h, 0, none⟩), .int .i64 worker, .int .i64 tick] wr fun e w' => e = .returned (.tuple #[.int .i64 (Pl.ask sr worker tick).2.id, .int .i64 (Pl.ask sr worker tick).2.num, .bool (Pl.ask sr worker tick).2.is, .int .i64 (Pl.ask sr worker tick).2.err]) ∧ PS B U X w w1 g h bx by_ sp (Pl.ask sr worker tick).1 w' := by
  obtain ⟨U', X', hz⟩ := hp
  refine (hz.pm.mAsk (B := B) hw hN worker tick).mono ?_
  rintro e w' ⟨rfl, U2, X2, q1, q2⟩
  exact ⟨rfl, hz.go q1 q2⟩
theorem PS.pAnswer (hp : PS B U X w w1 g h bx by_ sp sr wr) (task worker num tick : Int) (htask : Go.Mem.I64 task) (hnum : Go.Mem.I64 num) {A : Option Addr} {l : List UInt8} (hb : (A, l) ∈ by_) (n c : Nat) (hn : l.length = n) (hn9 : n ≤ 1000000000) : Calls Try.prog 15 #[.pointer (some ⟨g, 0, none⟩), .agg #[.int .i64 task, .int .i64 worker, .int .i64 num, .slice A n c], .int .i64 tick] wr fun e w' => e = .returned (.tuple #[.bool (Pl.answer sp task worker num l tick).2.1, .int .i64 (Pl.answer sp task worker num l tick).2.2]) ∧ PS B U X w w1 g h bx by_ (Pl.answer sp task worker num l tick).1 sr w' := by
  obtain ⟨U', X', hz⟩ := hp
  subst hn
  refine (hz.pm.pAnswer (B := B) task worker num tick htask hnum A _ c l (hz.rd _ hb).1 hn9 (fun k hk => ((hz.rd _ hb).2 k hk).2)).mono ?_
  rintro e w' ⟨rfl, U2, X2, q1, q2⟩
  exact ⟨rfl, hz.go q1 q2⟩
theorem PS.mAnswer (hp : PS B U X w w1 g h bx by_ sp sr wr) (hw : WF sr) (hN : sr.tries.length ≤ 1000000) (task worker num tick : Int) {A : Option Addr} {l : List UInt8} (hb : (A, l) ∈ by_) (n c : Nat) (hn : l.length = n) (hnc : n ≤ c) (hcm : c ≤ maxLen) (hB : ∀ k, blk A = some k → B k) : Calls Try.prog 23 #[.pointer (some ⟨h, 0, none⟩), .int .i64 task, .int .i64 worker, .int .i64 num, .slice A n c, .int .i64 tick] wr fun e w' => e = .returned (.tuple #[.bool (Pl.answer sr task worker num l tick).2.1, .int .i64 (Pl.answer sr task worker num l tick).2.2]) ∧ PS B U X w w1 g h bx by_ sp (Pl.answer sr task worker num l tick).1 w' := by
  obtain ⟨U', X', hz⟩ := hp
  subst hn
  refine (hz.pm.mAnswer hw hN task worker num tick A _ c l (hz.rd _ hb).1 hnc hcm (hz.rd _ hb).2 hB).mono ?_
  rintro e w' ⟨rfl, U2, X2, q1, q2⟩
  exact ⟨rfl, hz.go q1 q2⟩
theorem PS.pRevive (hp : PS B U X w w1 g h bx by_ sp sr wr) (worker : Int) : Calls Try.prog 26 #[.pointer (some ⟨g, 0, none⟩), .int .i64 worker] wr fun e w' => e = .returned (.int .i64 (revive sp worker).2) ∧ PS B U X w w1 g h bx by_ (revive sp worker).1 sr w' := by
  obtain ⟨U', X', hz⟩ := hp
  refine (hz.pm.pRevive (B := B) worker).mono ?_
  rintro e w' ⟨rfl, U2, X2, q1, q2⟩
  exact ⟨rfl, hz.go q1 q2⟩
theorem PS.mRevive (hp : PS B U X w w1 g h bx by_ sp sr wr) (hw : WF sr) (worker : Int) : Calls Try.prog 27 #[.pointer (some ⟨h, 0, none⟩), .int .i64 worker] wr fun e w' => e = .returned (.int .i64 (revive sr worker).2) ∧ PS B U X w w1 g h bx by_ sp (revive sr worker).1 w' := by
  obtain ⟨U', X', hz⟩ := hp
  refine (hz.pm.mRevive (B := B) hw worker).mono ?_
  rintro e w' ⟨rfl, U2, X2, q1, q2⟩
  exact ⟨rfl, hz.go q1 q2⟩
theorem PS.pDie (hp : PS B U X w w1 g h bx by_ sp sr wr) (worker tick : Int) : Calls Try.prog 24 #[.pointer (some ⟨g, 0, none⟩), .int .i64 worker, .int .i64 tick] wr fun e w' => e = .returned (.int .i64 (Pl.die sp worker tick).2) ∧ PS B U X w w1 g h bx by_ (Pl.die sp worker tick).1 sr w' := by
  obtain ⟨U', X', hz⟩ := hp
  refine (hz.pm.pDie (B := B) worker tick).mono ?_
  rintro e w' ⟨rfl, U2, X2, q1, q2⟩
  exact ⟨rfl, hz.go q1 q2⟩
theorem PS.mDie (hp : PS B U X w w1 g h bx by_ sp sr wr) (hw : WF sr) (hN : sr.tries.length ≤ 1000000) (worker tick : Int) : Calls Try.prog 25 #[.pointer (some ⟨h, 0, none⟩), .int .i64 worker, .int .i64 tick] wr fun e w' => e = .returned (.int .i64 (Pl.die sr worker tick).2) ∧ PS B U X w w1 g h bx by_ sp (Pl.die sr worker tick).1 w' := by
  obtain ⟨U', X', hz⟩ := hp
  refine (hz.pm.mDie (B := B) hw hN worker tick).mono ?_
  rintro e w' ⟨rfl, U2, X2, q1, q2⟩
  exact ⟨rfl, hz.go q1 q2⟩
theorem PS.mFind (hp : PS B U X w w1 g h bx by_ sp sr wr) (id : Int) : Calls Try.prog 50 #[.pointer (some ⟨h, 0, none⟩), .int .i64 id] wr fun e w' => e = .returned (.int .i64 (find sr id)) ∧ w' = wr := by
  obtain ⟨U', X', hz⟩ := hp
  exact hz.pm.mFind id
end
/-- A task that was given out has its bytes. -/
theorem ask_find {s : S} {worker tick : Int} (hw : WF (Pl.ask s worker tick).1) (h : (Pl.ask s worker tick).2.is = true) : ∃ (i : Nat) (j : Job), find (Pl.ask s worker tick).1 (Pl.ask s worker tick).2.id = (i : Int) ∧ (Pl.ask s worker tick).1.jobs[i]? = some j ∧ j.body = (Pl.ask s worker tick).2.body := by
  have key : ∃ j, j ∈ (Pl.ask s worker tick).1.jobs ∧ j.id = (Pl.ask s worker tick).2.id ∧ j.body = (Pl.ask s worker tick).2.body := by
    clear hw
    revert h
    unfold Pl.ask
    split
    · intro h; cases h
    · split
      · intro h; cases h
      · split
        · intro h; cases h
        · split
          · intro h; cases h
          · rename_i k hk
            split
            · intro h; cases h
            · rename_i j hj
              intro _
              obtain ⟨hlt, _⟩ := List.getElem?_eq_some_iff.1 hj
              refine ⟨{ j with n := j.n + 1 }, ?_, rfl, rfl⟩
              exact List.mem_of_getElem? (i := k) (show (s.jobs.set k { j with n := j.n + 1 })[k]? = _ by rw [List.getElem?_set_self hlt])
  obtain ⟨j, h1, h2, h3⟩ := key
  obtain ⟨k, h4, h5⟩ := find_at hw h1 h2
  exact ⟨k, j, h4, h5, h3⟩
end Go.Proofs.Ytbmplfhcdkeooaa

namespace Go.Proofs.Ytbmplfhcdkeooaa
set_option linter.unusedVariables false
open Go.RowKit Go.Mem Go.Pl

theorem PM.start {w w1 w2 : World} {g m h : Nat} {dv : Value} {V : Int → Loc} {al : Value} {s : S} (h1 : PI w1 g m dv V (fun _ => False) s) (hn1 : New w w1) (ho1 : ∀ k, ownP g m dv V s k → w.heap.size ≤ k)
    (h2 : RI w2 h al (.slice none 0 0) (.slice none 0 0) (fun _ => False) s) (hn2 : New w1 w2) (ho2 : ∀ k, ownR h al (.slice none 0 0) (.slice none 0 0) k → w1.heap.size ≤ k) : ∃ U X, PM U X w g h s s w2 :=
  ⟨_, _, m, dv, V, fun _ => False, al, .slice none 0 0, .slice none 0 0, fun _ => False, ⟨hn1.trans hn2 (fun _ _ h => h), h1.chg hn2 (fun _ _ h => h) (fun _ h => h.elim), h2, ho1, fun k hk => Nat.le_trans hn1.size (ho2 k hk), fun k hk => ⟨fun hr => by have := h1.lt hk; have := ho2 k hr; omega, fun h => h⟩, fun _ _ h => h⟩, rfl, rfl⟩
theorem ScrV.cap {w : World} {lo : Nat} {v : Value} {os : List OpP} {o : OpP} (h : ScrV w lo v os) {j : Nat} (hj : os[j]? = some o) : ∃ ga c A ca, v = .slice (some ⟨ga, 0, none⟩) os.length c ∧ w.cell? ⟨ga, j * 5 + 3, none⟩ = some (.slice A o.body.length ca) ∧ o.body.length ≤ ca ∧ ca ≤ maxLen := by
  obtain ⟨css, h1, h2, h3⟩ := h
  obtain ⟨cs, q1, A, ca, rfl, q2, q4, q5, q3⟩ := h3 j o hj
  have hfl : ∀ (i : Nat) (x : Value), i < 5 → ([.int .i64 o.kind, .int .i64 o.worker, .int .i64 o.n, .slice A o.body.length ca, .int .i64 o.wait] : List Value)[i]? = some x → css.flatten[j * 5 + i]? = some x := fun i x hi hx => flattenN (fun y hy => by
    obtain ⟨q, hq⟩ := List.getElem?_of_mem hy
    have hql := (List.getElem?_eq_some_iff.1 hq).1
    obtain ⟨d', hd'⟩ : ∃ d', os[q]? = some d' := ⟨_, List.getElem?_eq_getElem (by omega)⟩
    obtain ⟨cs', p1, p2⟩ := h3 q d' hd'
    rw [hq] at p1
    injection p1 with p1
    rw [p1]
    exact p2.len) q1 hi hx
  obtain ⟨A0, c, hv, _⟩ := ownN_shape h1
  subst hv
  obtain ⟨ga, rfl, c3, _⟩ := ownN_cell h1 (hfl 3 _ (by omega) rfl)
  exact ⟨ga, c, A, ca, rfl, c3, q4, q5⟩
theorem stepS_tries (s : S) (o : OpP) : (stepS s o).tries.length ≤ s.tries.length + 1 := by
  unfold stepS
  split
  · unfold add; repeat' split
    all_goals simp
  · split
    · unfold Pl.ask; repeat' split
      all_goals simp [giveOut]
    · split
      · unfold Pl.answer; repeat' split
        all_goals simp [setAns]
      · split
        · by_cases hc : check s o.worker (s.tick + o.wait) = 0
          · cases ha : s.alive.getD o.worker.toNat false with
            | true => rw [die_ok hc ha]; simp
            | false => rw [die_dead hc ha]; simp
          · rw [die_bad hc]; simp
        · unfold revive; repeat' split
          all_goals simp
end Go.Proofs.Ytbmplfhcdkeooaa
