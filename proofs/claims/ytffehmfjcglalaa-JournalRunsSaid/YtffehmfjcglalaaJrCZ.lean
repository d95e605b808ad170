/- A disk with its log, and the model of both, beside each other: what calls leave. -/
import Derived.Test.YtffehmfjcglalaaJrBZ
import Derived.Test.YtffehmfjcglalaaJnCZ
import Derived.Test.YtffehmfjcglalaaRdGZ
import Derived.Test.YtffehmfjcglalaaRefLists
set_option linter.unusedSimpArgs false
set_option linter.unusedVariables false
namespace Go.Proofs.Ytffehmfjcglalaa
set_option linter.unusedVariables false
open Go.RowKit Go.Mem Go.Dk Go.Pure Go.Jn

/-- The log that Open gives back. -/
def lgOf (file : Int) (r : S × Int × List (List UInt8)) : Option Lg := if r.2.1 = 0 then some ⟨file, r.2.2.length, false⟩ else none
theorem fresh_any (room : Int) (hr : 0 ≤ room ∧ room ≤ 16777216) (w : World) : Calls Try.prog 9 #[.int .i64 room] w fun e w' => ∃ g m, e = .returned (.pointer (some ⟨g, 0, none⟩)) ∧ DI w' g m (fun _ => .slice none 0 0) (Dk.new room.toNat) ∧ New w w' ∧ w.heap.size ≤ g ∧ w.heap.size ≤ m := by
  go_enter Try.func9, Try.ntmps9
  go_wp2_with (go_at_call 30; refine (dNew_any room hr w).mono ?_; rintro e w' ⟨g, m, rfl, h1, h2, h3, h4⟩; have H := Lib.hid (And.intro h1 (And.intro h2 (And.intro h3 h4))); clear h1 h2 h3 h4)
  go_ret
  exact ⟨g, m, rfl, H.out.1, H.out.2.1, H.out.2.2.1, H.out.2.2.2⟩
/-- A log of the disk at g, or none; its block is not one of own. -/
def LgV (t : TypeId) (g : Nat) (lo : Nat) (own : Nat → Prop) (w : World) (v : Value) (o : Option Lg) : Prop := match o with
  | none => v = .pointer none
  | some l => ∃ gl, v = .pointer (some ⟨gl, 0, none⟩) ∧ Blk w gl t (lgCells g l) ∧ lo ≤ gl ∧ ¬ own gl
/-- The block of a log. -/
def lgB (v : Value) (k : Nat) : Prop := v = .pointer (some ⟨k, 0, none⟩)
structure JMz (m : Nat) (V : Nat → Value) (b f : Nat) (V2 : Nat → Value) (w : World) (g g2 : Nat) (sp sr : S) (v1 : Value) (o1 : Option Lg) (v2 : Value) (o2 : Option Lg) (wl : World) : Prop where
  new : New w wl
  pi : DI wl g m V sp
  rf : RI wl g2 b f V2 sr
  b1 : ∀ k, ownD g m V k → w.heap.size ≤ k
  b2 : ∀ k, ownR g2 b f V2 k → w.heap.size ≤ k
  d : ∀ k, ownD g m V k → ¬ ownR g2 b f V2 k
  l1 : LgV 65 g w.heap.size (fun k => ownD g m V k ∨ ownR g2 b f V2 k) wl v1 o1
  l2 : LgV 50 g2 w.heap.size (fun k => ownD g m V k ∨ ownR g2 b f V2 k) wl v2 o2
/-- The disk at g (sp) with the log v1 (o1), the model at g2 (sr) with the log v2 (o2), made after w. U: their blocks. -/
def JS (U : Nat → Prop) (w : World) (g g2 : Nat) (sp sr : S) (v1 : Value) (o1 : Option Lg) (v2 : Value) (o2 : Option Lg) (wl : World) : Prop :=
  ∃ m V b f V2, JMz m V b f V2 w g g2 sp sr v1 o1 v2 o2 wl ∧ U = fun k => (ownD g m V k ∨ ownR g2 b f V2 k) ∨ (lgB v1 k ∨ lgB v2 k)
structure JStep (U U' : Nat → Prop) (w1 w2 : World) : Prop where
  chg : Chg U w1 w2
  own : ∀ k, U' k → U k ∨ w1.heap.size ≤ k
section
variable {w w1 w2 w' wl : World} {g g2 : Nat} {s sp sr sp' sr' : S} {v1 v2 v' : Value} {o o1 o2 o' : Option Lg} {U U' U'' own own' Y : Nat → Prop} {t : TypeId} {lo : Nat} {l : Lg}
theorem JStep.trans (h1 : JStep U U' w1 w2) (h2 : JStep U' U'' w2 w') : JStep U U'' w1 w' :=
  ⟨h1.chg.trans h2.chg (fun k hk hu => by
    rcases h1.own k hu with h | h
    · exact h
    · omega), fun k hk => by
    rcases h2.own k hk with h | h
    · exact h1.own k h
    · exact .inr (Nat.le_trans h1.chg.size h)⟩
theorem LgV.lt (h : LgV t g lo own w1 v' o) {k : Nat} (hk : lgB v' k) : k < w1.heap.size ∧ lo ≤ k ∧ ¬ own k := by
  unfold lgB at hk
  cases o with
  | none =>
    have h : v' = .pointer none := h
    rw [h] at hk
    cases hk
  | some l =>
    obtain ⟨gl, rfl, h1, h2, h3⟩ := h
    injection hk with hk
    injection hk with hk
    injection hk with hk
    subst hk
    exact ⟨h1.lt, h2, h3⟩
theorem LgV.chg (h : LgV t g lo own w1 v' o) (hc : Chg Y w1 w2) (hY : ∀ k, lgB v' k → ¬ Y k) (ho : ∀ k, k < w1.heap.size → own' k → own k) : LgV t g lo own' w2 v' o := by
  cases o with
  | none => exact h
  | some l =>
    obtain ⟨gl, rfl, h1, h2, h3⟩ := h
    exact ⟨gl, rfl, h1.chg hc (hY gl rfl), h2, fun h => h3 (ho gl h1.lt h)⟩
theorem LgV.ty {cs : Array Value} {t' : TypeId} (h : LgV t g lo own w1 v' o) {k : Nat} (hk : lgB v' k) (hb : Blk w1 k t' cs) (hne : t' ≠ t) : False := by
  cases o with
  | none =>
    have h : v' = .pointer none := h
    unfold lgB at hk
    rw [h] at hk
    cases hk
  | some l =>
    obtain ⟨gl, rfl, h1, h2, h3⟩ := h
    injection hk with hk
    injection hk with hk
    injection hk with hk
    subst hk
    exact blk_ne hb h1 hne rfl
/-- The two logs do not meet. -/
theorem lg_apart {t1 t2 : TypeId} {g1 lo1 lo2 : Nat} {own1 own2 : Nat → Prop} (h1 : LgV t1 g1 lo1 own1 wl v1 o1) (h2 : LgV t2 g2 lo2 own2 wl v2 o2) (hne : t1 ≠ t2) {k : Nat} (hk : lgB v1 k) : ¬ lgB v2 k := fun hk2 => by
  cases o1 with
  | none =>
    have h1 : v1 = .pointer none := h1
    unfold lgB at hk
    rw [h1] at hk
    cases hk
  | some l =>
    obtain ⟨gl, rfl, q1, _⟩ := h1
    injection hk with hk
    injection hk with hk
    injection hk with hk
    subst hk
    exact h2.ty hk2 q1 hne
/-- The program's side has changed. -/
theorem JMz.prog {m b f : Nat} {V V' V2 : Nat → Value} (h : JMz m V b f V2 w g g2 sp sr v1 o1 v2 o2 w1) (hd : DI w2 g m V' sp') (hc : Chg (fun k => ownD g m V k ∨ lgB v1 k) w1 w2) (ho : ∀ k, ownD g m V' k → ownD g m V k ∨ w1.heap.size ≤ k)
    (hl : LgV 65 g w.heap.size (fun k => ownD g m V' k ∨ ownR g2 b f V2 k) w2 v' o') (hb : ∀ k, lgB v' k → lgB v1 k ∨ w1.heap.size ≤ k) :
    JS (fun k => (ownD g m V' k ∨ ownR g2 b f V2 k) ∨ (lgB v' k ∨ lgB v2 k)) w g g2 sp' sr v' o' v2 o2 w2 ∧ JStep (fun k => (ownD g m V k ∨ ownR g2 b f V2 k) ∨ (lgB v1 k ∨ lgB v2 k)) (fun k => (ownD g m V' k ∨ ownR g2 b f V2 k) ∨ (lgB v' k ∨ lgB v2 k)) w1 w2 := by
  have hz := h.new.size
  refine ⟨⟨m, V', b, f, V2, ⟨h.new.trans hc (fun k hk e => ?_), hd, h.rf.chg hc (fun k hk e => ?_), fun k hk => ?_, h.b2, fun k hk hr => ?_, hl, h.l2.chg hc (fun k hk e => ?_) (fun k hk e => ?_)⟩, rfl⟩, hc.mono (fun k _ e => ?_), fun k hk => ?_⟩
  · rcases e with e | e
    · have := h.b1 k e; omega
    · have := (h.l1.lt e).2.1; omega
  · rcases e with e | e
    · exact h.d k e hk
    · exact (h.l1.lt e).2.2 (.inr hk)
  · rcases ho k hk with e | e
    · exact h.b1 k e
    · omega
  · rcases ho k hk with e | e
    · exact h.d k e hr
    · have := h.rf.lt hr; omega
  · rcases e with e | e
    · exact (h.l2.lt hk).2.2 (.inl e)
    · exact lg_apart h.l1 h.l2 (by decide) e hk
  · rcases e with e | e
    · rcases ho k e with e | e
      · exact .inl e
      · omega
    · exact .inr e
  · rcases e with e | e
    · exact .inl (.inl e)
    · exact .inr (.inl e)
  · rcases hk with (hk | hk) | (hk | hk)
    · rcases ho k hk with e | e
      · exact .inl (.inl (.inl e))
      · exact .inr e
    · exact .inl (.inl (.inr hk))
    · rcases hb k hk with e | e
      · exact .inl (.inr (.inl e))
      · exact .inr e
    · exact .inl (.inr (.inr hk))
/-- The model's side has changed. -/
theorem JMz.refl {m b f : Nat} {V V2 V' : Nat → Value} (h : JMz m V b f V2 w g g2 sp sr v1 o1 v2 o2 w1) (hd : RI w2 g2 b f V' sr') (hc : Chg (fun k => ownR g2 b f V2 k ∨ lgB v2 k) w1 w2) (ho : ∀ k, ownR g2 b f V' k → ownR g2 b f V2 k ∨ w1.heap.size ≤ k)
    (hl : LgV 50 g2 w.heap.size (fun k => ownD g m V k ∨ ownR g2 b f V' k) w2 v' o') (hb : ∀ k, lgB v' k → lgB v2 k ∨ w1.heap.size ≤ k) :
    JS (fun k => (ownD g m V k ∨ ownR g2 b f V' k) ∨ (lgB v1 k ∨ lgB v' k)) w g g2 sp sr' v1 o1 v' o' w2 ∧ JStep (fun k => (ownD g m V k ∨ ownR g2 b f V2 k) ∨ (lgB v1 k ∨ lgB v2 k)) (fun k => (ownD g m V k ∨ ownR g2 b f V' k) ∨ (lgB v1 k ∨ lgB v' k)) w1 w2 := by
  have hz := h.new.size
  refine ⟨⟨m, V, b, f, V', ⟨h.new.trans hc (fun k hk e => ?_), h.pi.chg hc (fun k hk e => ?_), hd, h.b1, fun k hk => ?_, fun k hk hr => ?_, h.l1.chg hc (fun k hk e => ?_) (fun k hk e => ?_), hl⟩, rfl⟩, hc.mono (fun k _ e => ?_), fun k hk => ?_⟩
  · rcases e with e | e
    · have := h.b2 k e; omega
    · have := (h.l2.lt e).2.1; omega
  · rcases e with e | e
    · exact h.d k hk e
    · exact (h.l2.lt e).2.2 (.inl hk)
  · rcases ho k hk with e | e
    · exact h.b2 k e
    · omega
  · rcases ho k hr with e | e
    · exact h.d k hk e
    · have := h.pi.lt hk; omega
  · rcases e with e | e
    · exact (h.l1.lt hk).2.2 (.inr e)
    · exact lg_apart h.l1 h.l2 (by decide) hk e
  · rcases e with e | e
    · exact .inl e
    · rcases ho k e with e | e
      · exact .inr e
      · omega
  · rcases e with e | e
    · exact .inl (.inr e)
    · exact .inr (.inr e)
  · rcases hk with (hk | hk) | (hk | hk)
    · exact .inl (.inl (.inl hk))
    · rcases ho k hk with e | e
      · exact .inl (.inl (.inr e))
      · exact .inr e
    · exact .inl (.inr (.inl hk))
    · rcases hb k hk with e | e
      · exact .inl (.inr (.inr e))
      · exact .inr e
theorem JS.lt (h : JS U w g g2 sp sr v1 o1 v2 o2 w1) {k : Nat} (hk : U k) : k < w1.heap.size ∧ w.heap.size ≤ k := by
  obtain ⟨m, V, b, f, V2, hz, rfl⟩ := h
  rcases hk with (hk | hk) | (hk | hk)
  · exact ⟨hz.pi.lt hk, hz.b1 k hk⟩
  · exact ⟨hz.rf.lt hk, hz.b2 k hk⟩
  · exact ⟨(hz.l1.lt hk).1, (hz.l1.lt hk).2.1⟩
  · exact ⟨(hz.l2.lt hk).1, (hz.l2.lt hk).2.1⟩
theorem JS.was (h : JS U w g g2 sp sr v1 o1 v2 o2 w1) : New w w1 := by
  obtain ⟨m, V, b, f, V2, hz, rfl⟩ := h
  exact hz.new
theorem JS.wf (h : JS U w g g2 sp sr v1 o1 v2 o2 w1) : WF sp ∧ WF sr := by
  obtain ⟨m, V, b, f, V2, hz, rfl⟩ := h
  exact ⟨hz.pi.wf, hz.rf.wf⟩
theorem JS.new (h : JS U w g g2 sp sr v1 o1 v2 o2 w1) (hn : New w1 w2) : JS U w g g2 sp sr v1 o1 v2 o2 w2 := by
  obtain ⟨m, V, b, f, V2, hz, rfl⟩ := h
  exact ⟨m, V, b, f, V2, ⟨hz.new.trans hn (fun _ _ h => h), hz.pi.new hn, hz.rf.new hn, hz.b1, hz.b2, hz.d, hz.l1.chg hn (fun _ _ h => h) (fun _ _ h => h), hz.l2.chg hn (fun _ _ h => h) (fun _ _ h => h)⟩, rfl⟩
theorem JStep.of_new (hn : New w1 w2) : JStep U U w1 w2 := ⟨hn.mono (fun _ _ hf => hf.elim), fun k hk => .inl hk⟩
theorem arm_files (s : S) (n : Int) : (arm s n).f = s.f ∧ (arm s n).firm = s.firm := by unfold arm; split <;> exact ⟨rfl, rfl⟩
/-! ### calls -/
theorem JS.arm (h : JS U w g g2 sp sr v1 o1 v2 o2 w1) (n : Int) (hn : -9223372036854775808 ≤ n ∧ n ≤ 9223372036854775807) : Calls Try.prog 24 #[.pointer (some ⟨g, 0, none⟩), .int .i64 n] w1 fun e w' => e = .returned (.tuple #[]) ∧ ∃ U', JS U' w g g2 (Dk.arm sp n) sr v1 o1 v2 o2 w' ∧ JStep U U' w1 w' := by
  obtain ⟨m, V, b, f, V2, hz, rfl⟩ := h
  refine (dArm_any g m sp n hn w1 hz.pi.core.blk).mono ?_
  rintro e w' ⟨rfl, h5, h6⟩
  obtain ⟨h7, h8⟩ := hz.pi.cells (arm_files sp n) h5 h6 (hz.pi.wf.arm hn.2)
  exact ⟨rfl, _, hz.prog h7 (h8.chg.mono (fun _ _ e => .inl e)) h8.own (hz.l1.chg h8.chg (fun k hk e => (hz.l1.lt hk).2.2 (.inl e)) (fun k _ e => e)) (fun k hk => .inl hk)⟩
theorem JS.rarm (h : JS U w g g2 sp sr v1 o1 v2 o2 w1) (n : Int) (hn : -9223372036854775808 ≤ n ∧ n ≤ 9223372036854775807) : Calls Try.prog 25 #[.pointer (some ⟨g2, 0, none⟩), .int .i64 n] w1 fun e w' => e = .returned (.tuple #[]) ∧ ∃ U', JS U' w g g2 sp (Dk.arm sr n) v1 o1 v2 o2 w' ∧ JStep U U' w1 w' := by
  obtain ⟨m, V, b, f, V2, hz, rfl⟩ := h
  refine (rArm_any g2 b f sr n hn w1 hz.rf.core.blk).mono ?_
  rintro e w' ⟨rfl, h5, h6⟩
  obtain ⟨h7, h8⟩ := hz.rf.cells (arm_files sr n) h5 h6 (hz.rf.wf.arm hn.2)
  exact ⟨rfl, _, hz.refl h7 (h8.chg.mono (fun _ _ e => .inl e)) h8.own (hz.l2.chg h8.chg (fun k hk e => (hz.l2.lt hk).2.2 (.inr e)) (fun k _ e => e)) (fun k hk => .inl hk)⟩
theorem JS.crash (h : JS U w g g2 sp sr v1 o1 v2 o2 w1) (K : Option Addr) (nk ck : Nat) (keep : List Int) (hK : Rd w1 K nk (is keep)) (hKo : ∀ k, blk K = some k → ¬ U k ∧ k < w1.heap.size) (hnk : nk ≤ 1000000000) (hkr : ∀ z ∈ keep, -9223372036854775808 ≤ z ∧ z ≤ 9223372036854775807) (flip : Int) (hfl : -9223372036854775808 ≤ flip ∧ flip ≤ 9223372036854775807) :
    Calls Try.prog 21 #[.pointer (some ⟨g, 0, none⟩), .slice K nk ck, .int .i64 flip] w1 fun e w' => e = .returned (.tuple #[]) ∧ ∃ U', JS U' w g g2 (Dk.crash sp keep flip) sr v1 o1 v2 o2 w' ∧ JStep U U' w1 w' := by
  obtain ⟨m, V, b, f, V2, hz, rfl⟩ := h
  refine (dCrash_any g m V sp w1 hz.pi K nk ck keep hK (fun k hk => ⟨fun ho => (hKo k hk).1 (.inl (.inl ho)), (hKo k hk).2⟩) hnk hkr flip hfl).mono ?_
  rintro e w' ⟨rfl, V', h7, h8⟩
  exact ⟨rfl, _, hz.prog h7 (h8.chg.mono (fun _ _ e => .inl e)) h8.own (hz.l1.chg h8.chg (fun k hk e => (hz.l1.lt hk).2.2 (.inl e)) (fun k hk e => e.imp (fun e => by
    rcases h8.own k e with h | h
    · exact h
    · omega) (fun e => e))) (fun k hk => .inl hk)⟩
theorem JS.rcrash (h : JS U w g g2 sp sr v1 o1 v2 o2 w1) (K : Option Addr) (nk ck : Nat) (keep : List Int) (hK : Rd w1 K nk (is keep)) (hKo : ∀ k, blk K = some k → ¬ U k ∧ k < w1.heap.size) (hnk : nk ≤ 1000000000) (hkr : ∀ z ∈ keep, -9223372036854775808 ≤ z ∧ z ≤ 9223372036854775807) (flip : Int) (hfl : -9223372036854775808 ≤ flip ∧ flip ≤ 9223372036854775807) :
    Calls Try.prog 26 #[.pointer (some ⟨g2, 0, none⟩), .slice K nk ck, .int .i64 flip] w1 fun e w' => e = .returned (.tuple #[]) ∧ ∃ U', JS U' w g g2 sp (Dk.crash sr keep flip) v1 o1 v2 o2 w' ∧ JStep U U' w1 w' := by
  obtain ⟨m, V, b, f, V2, hz, rfl⟩ := h
  refine (rCrash_any g2 b f V2 sr w1 hz.rf K nk ck keep hK (fun k hk => ⟨fun ho => (hKo k hk).1 (.inl (.inr ho)), (hKo k hk).2⟩) hnk hkr flip hfl).mono ?_
  rintro e w' ⟨rfl, V', h7, h8⟩
  exact ⟨rfl, _, hz.refl h7 (h8.chg.mono (fun _ _ e => .inl e)) h8.own (hz.l2.chg h8.chg (fun k hk e => (hz.l2.lt hk).2.2 (.inr e)) (fun k hk e => e.imp (fun e => e) (fun e => by
    rcases h8.own k e with h | h
    · exact h
    · omega))) (fun k hk => .inl hk)⟩
/-- Rows that read. -/
def RrJ (w : World) (Y : Nat → Prop) (A : Option Addr) (n : Nat) (ls : List (List UInt8)) : Prop := ∃ vs, Rd w A n vs ∧ ls.length = n ∧ ListsW w vs ls ∧ (∀ k, blk A = some k → k < w.heap.size ∧ ¬ Y k) ∧ ∀ v ∈ vs, ∀ A n c, v = .slice A n c → ∀ k, blk A = some k → ¬ Y k
theorem RrJ.chg {A : Option Addr} {n : Nat} {ls : List (List UInt8)} (h : RrJ w1 Y A n ls) (hc : Chg Y w1 w2) : RrJ w2 (fun _ => False) A n ls := by
  obtain ⟨vs, h1, h2, h3, h4, h5⟩ := h
  refine ⟨vs, h1.chg hc (fun k hk _ => (h4 k hk).2), h2, ⟨h3.1, fun i v l hv hl => ?_⟩, fun k hk => ⟨Nat.lt_of_lt_of_le (h4 k hk).1 hc.size, fun h => h⟩, fun _ _ _ _ _ _ _ _ h => h⟩
  obtain ⟨A', n', c', rfl, q1, q2, q3⟩ := h3.2 i v l hv hl
  exact ⟨A', n', c', rfl, q1, q2.chg hc (fun k hk _ => h5 _ (List.mem_of_getElem? hv) A' n' c' rfl k hk), fun k hk => Nat.lt_of_lt_of_le (q3 k hk) hc.size⟩
theorem JS.open_ (h : JS U w g g2 sp sr v1 o1 v2 o2 w1) (file : Int) : Calls Try.prog 10 #[.pointer (some ⟨g, 0, none⟩), .int .i64 file] w1 fun e w' => ∃ p A nl cl, e = .returned (.tuple #[p, .slice A nl cl, .int .i64 (openJ sp file).2.1]) ∧ ∃ U', JS U' w g g2 (openJ sp file).1 sr p (lgOf file (openJ sp file)) v2 o2 w' ∧ JStep U U' w1 w' ∧ RrJ w' U' A nl (openJ sp file).2.2 := by
  obtain ⟨m, V, b, f, V2, hz, rfl⟩ := h
  refine (jOpen_any g m V sp w1 hz.pi file).mono ?_
  rintro e w' ⟨p, A, nl, cl, vs, V', rfl, h7, h8, h9⟩
  refine ⟨p, A, nl, cl, rfl, ?_⟩
  have hz1 := hz.new.size
  have hlg : LgV 65 g w.heap.size (fun k => ownD g m V' k ∨ ownR g2 b f V2 k) w' p (lgOf file (openJ sp file)) ∧ ∀ k, lgB p k → w1.heap.size ≤ k := by
    rcases h9 with ⟨h0, gl, rfl, q1, q2, q3, _⟩ | ⟨h0, rfl, _⟩
    · unfold lgOf
      rw [if_pos h0]
      refine ⟨⟨gl, rfl, q3, by omega, fun ho => ?_⟩, fun k hk => ?_⟩
      · rcases ho with ho | ho
        · exact q2 ho
        · have := hz.rf.lt ho; omega
      · injection hk with hk
        injection hk with hk
        injection hk with hk
        omega
    · unfold lgOf
      rw [if_neg h0]
      exact ⟨rfl, fun k hk => by cases hk⟩
  obtain ⟨q1, q2⟩ := hz.prog h7 (h8.chg.mono (fun _ _ e => .inl e)) h8.own hlg.1 (fun k hk => .inr (hlg.2 k hk))
  have hrow : RowsJ w' w1.heap.size (fun k => (ownD g m V' k ∨ ownR g2 b f V2 k) ∨ (lgB p k ∨ lgB v2 k)) A nl cl vs (openJ sp file).2.2 := by
    have old : ∀ k, w1.heap.size ≤ k → (ownR g2 b f V2 k ∨ lgB v2 k) → False := fun k hk h => by
      rcases h with h | h
      · have := hz.rf.lt h; omega
      · have := (hz.l2.lt h).1; omega
    rcases h9 with ⟨h0, gl, rfl, q1, q2, q3, q4⟩ | ⟨h0, rfl, q4⟩
    · refine q4.sub (fun k hB hk ht => ?_)
      rcases ht with (h | h) | (h | h)
      · exact .inl h
      · exact (old k hB (.inl h)).elim
      · injection h with h; injection h with h; injection h with h; exact .inr h.symm
      · exact (old k hB (.inr h)).elim
    · refine q4.sub (fun k hB hk ht => ?_)
      rcases ht with (h | h) | (h | h)
      · exact h
      · exact (old k hB (.inl h)).elim
      · cases h
      · exact (old k hB (.inr h)).elim
  have hr := Rd.of_own hrow.own
  exact ⟨_, q1, q2, vs, hr, by rw [← hrow.rows.1]; exact hr.len, ListsW.of hrow.rows, fun k hk => ⟨(hrow.blt.1 k hk).2, hrow.apart.1 k hk⟩, hrow.apart.2⟩
theorem JS.ropen (h : JS U w g g2 sp sr v1 o1 v2 o2 w1) (i : Nat) (hi : i < 64) : Calls Try.prog 23 #[.pointer (some ⟨g2, 0, none⟩), .int .i64 (i : Int)] w1 fun e w' => ∃ p A nl cl, e = .returned (.tuple #[p, .slice A nl cl, .int .i64 (openJ sr (i : Int)).2.1]) ∧ ∃ U', JS U' w g g2 sp (openJ sr (i : Int)).1 v1 o1 p (lgOf (i : Int) (openJ sr (i : Int))) w' ∧ JStep U U' w1 w' ∧ RrJ w' (fun _ => False) A nl (openJ sr (i : Int)).2.2 := by
  obtain ⟨m, V, b, f, V2, hz, rfl⟩ := h
  refine (rOpen_any g2 b f V2 sr w1 hz.rf i hi).mono ?_
  rintro e w' ⟨p, A, nl, cl, vs, V', rfl, h7, h8, hrow, h10, h9⟩
  refine ⟨p, A, nl, cl, rfl, ?_⟩
  have hz1 := hz.new.size
  have hlg : LgV 50 g2 w.heap.size (fun k => ownD g m V k ∨ ownR g2 b f V' k) w' p (lgOf (i : Int) (openJ sr (i : Int))) ∧ ∀ k, lgB p k → w1.heap.size ≤ k := by
    rcases h9 with ⟨h0, gl, rfl, q1, q2, q3, _⟩ | ⟨h0, rfl⟩
    · unfold lgOf
      rw [if_pos h0]
      refine ⟨⟨gl, rfl, q3, by omega, fun ho => ?_⟩, fun k hk => ?_⟩
      · rcases ho with ho | ho
        · have := hz.pi.lt ho; omega
        · exact q2 ho
      · injection hk with hk
        injection hk with hk
        injection hk with hk
        omega
    · unfold lgOf
      rw [if_neg h0]
      exact ⟨rfl, fun k hk => by cases hk⟩
  obtain ⟨q1, q2⟩ := hz.refl h7 (h8.chg.mono (fun _ _ e => .inl e)) h8.own hlg.1 (fun k hk => .inr (hlg.2 k hk))
  have hr := Rd.of_own hrow.own
  exact ⟨_, q1, q2, vs, hr, by rw [← hrow.rows.1]; exact hr.len, ListsW.of hrow.rows, fun k hk => ⟨(own_blk_le hrow.own hk).2, fun h => h⟩, fun _ _ _ _ _ _ _ _ h => h⟩
theorem JS.append (h : JS U w g g2 sp sr v1 o1 v2 o2 w1) (l : Lg) (hol : o1 = some l) (B : Option Addr) (nb cb : Nat) (x : List UInt8) (hb : Rd w1 B nb (bs x)) (hB : ∀ k, blk B = some k → k < w1.heap.size) (hbl : x.length ≤ 100000000) (hs : l.size ≤ 1000000000) :
    Calls Try.prog 14 #[v1, .slice B nb cb] w1 fun e w' => e = .returned (.int .i64 (appJ sp l x).2.2) ∧ ∃ U', JS U' w g g2 (appJ sp l x).1 sr v1 (some (appJ sp l x).2.1) v2 o2 w' ∧ JStep U U' w1 w' := by
  obtain ⟨m, V, b, f, V2, hz, rfl⟩ := h
  subst hol
  have hz1 := hz.new.size
  obtain ⟨gl, rfl, q1, q2, q3⟩ := hz.l1
  refine (jAppend_any g m V sp gl l w1 hz.pi q1 (fun ho => q3 (.inl ho)) B nb cb x hb hB hbl hs).mono ?_
  rintro e w' ⟨rfl, V', h7, h8, h9, h10⟩
  exact ⟨rfl, _, hz.prog h7 (h9.mono (fun k _ e => e.imp (fun e => e) (fun e => by subst e; rfl))) h10 ⟨gl, rfl, h8, q2, fun ho => by
    rcases ho with ho | ho
    · rcases h10 gl ho with h | h
      · exact q3 (.inl h)
      · have := q1.lt; omega
    · exact q3 (.inr ho)⟩ (fun k hk => .inl hk)⟩
theorem JS.rappend (h : JS U w g g2 sp sr v1 o1 v2 o2 w1) (l : Lg) (hol : o2 = some l) (B : Option Addr) (nb cb : Nat) (x : List UInt8) (hb : Rd w1 B nb (bs x)) (hbl : x.length ≤ 100000000) (hs : l.size ≤ 1000000000) :
    Calls Try.prog 27 #[v2, .slice B nb cb] w1 fun e w' => e = .returned (.int .i64 (appJ sr l x).2.2) ∧ ∃ U', JS U' w g g2 sp (appJ sr l x).1 v1 o1 v2 (some (appJ sr l x).2.1) w' ∧ JStep U U' w1 w' := by
  obtain ⟨m, V, b, f, V2, hz, rfl⟩ := h
  subst hol
  have hz1 := hz.new.size
  obtain ⟨gl, rfl, q1, q2, q3⟩ := hz.l2
  refine (rAppend07_any g2 b f V2 sr gl l w1 hz.rf q1 (fun ho => q3 (.inr ho)) B nb cb x hb hbl hs).mono ?_
  rintro e w' ⟨rfl, V', h7, h8, h9, h10⟩
  exact ⟨rfl, _, hz.refl h7 (h9.mono (fun k _ e => e.imp (fun e => e) (fun e => by subst e; rfl))) h10 ⟨gl, rfl, h8, q2, fun ho => by
    rcases ho with ho | ho
    · exact q3 (.inl ho)
    · rcases h10 gl ho with h | h
      · exact q3 (.inr h)
      · have := q1.lt; omega⟩ (fun k hk => .inl hk)⟩
theorem JS.len (h : JS U w g g2 sp sr v1 (some l) v2 o2 w1) : Calls Try.prog 15 #[v1] w1 fun e w' => e = .returned (.int .i64 (l.size : Int)) ∧ w' = w1 := by
  obtain ⟨m, V, b, f, V2, hz, rfl⟩ := h
  obtain ⟨gl, rfl, q1, q2, q3⟩ := hz.l1
  exact jLen_any g gl l w1 q1
theorem JS.up (h : JS U w g g2 sp sr v1 (some l) v2 o2 w1) : Calls Try.prog 16 #[v1] w1 fun e w' => e = .returned (.bool (!l.down)) ∧ w' = w1 := by
  obtain ⟨m, V, b, f, V2, hz, rfl⟩ := h
  obtain ⟨gl, rfl, q1, q2, q3⟩ := hz.l1
  exact jUp_any g gl l w1 q1
/-- The logs' values. -/
theorem JS.val1 (h : JS U w g g2 sp sr v1 o1 v2 o2 w1) : (o1 = none ∧ v1 = .pointer none) ∨ ∃ l gl, o1 = some l ∧ v1 = .pointer (some ⟨gl, 0, none⟩) := by
  obtain ⟨m, V, b, f, V2, hz, rfl⟩ := h
  cases o1 with
  | none => exact .inl ⟨rfl, hz.l1⟩
  | some l =>
    obtain ⟨gl, e, _⟩ := hz.l1
    exact .inr ⟨l, gl, rfl, e⟩
theorem JS.val2 (h : JS U w g g2 sp sr v1 o1 v2 o2 w1) : (o2 = none ∧ v2 = .pointer none) ∨ ∃ l gl, o2 = some l ∧ v2 = .pointer (some ⟨gl, 0, none⟩) ∧ w1.cell? ⟨gl, 2, none⟩ = some (.int .i64 (l.size : Int)) ∧ w1.cell? ⟨gl, 3, none⟩ = some (.bool l.down) ∧ gl < w1.heap.size := by
  obtain ⟨m, V, b, f, V2, hz, rfl⟩ := h
  cases o2 with
  | none => exact .inl ⟨rfl, hz.l2⟩
  | some l =>
    obtain ⟨gl, e, q1, _⟩ := hz.l2
    exact .inr ⟨l, gl, rfl, e, q1.cell 2 rfl, q1.cell 3 rfl, q1.lt⟩
theorem JS.read (h : JS U w g g2 sp sr v1 o1 v2 o2 w1) (file : Int) : Calls Try.prog 28 #[.pointer (some ⟨g, 0, none⟩), .int .i64 file] w1 fun e w' => ∃ A c, e = .returned (.tuple #[.slice A (Dk.read sp file).1.length c, .int .i64 (Dk.read sp file).2]) ∧ Rd w' A (Dk.read sp file).1.length (bs (Dk.read sp file).1) ∧ New w1 w' := by
  obtain ⟨m, V, b, f, V2, hz, rfl⟩ := h
  refine (dRead_any g m V sp w1 hz.pi file).mono ?_
  rintro e w' ⟨A, c, rfl, h5, h6⟩
  exact ⟨A, c, rfl, Rd.of_own h5, h6⟩
/-- The model's cells: its flag, its row of files, a file. -/
theorem JS.cells (h : JS U w g g2 sp sr v1 o1 v2 o2 w1) (i : Nat) (hi : i < 64) : w1.cell? ⟨g2, 3, none⟩ = some (.bool sr.off) ∧ g2 < w1.heap.size ∧ ∃ b A c, w1.cell? ⟨g2, 1, none⟩ = some (.slice (some ⟨b, 0, none⟩) 64 64) ∧ w1.cell? ⟨b, i, none⟩ = some (.slice A (sr.f i).length c) ∧ b < w1.heap.size ∧ Rd w1 A (sr.f i).length (bs (sr.f i)) := by
  obtain ⟨m, V, b, f, V2, hz, rfl⟩ := h
  obtain ⟨c0, c1, c2, c3, c4⟩ := hz.rf.core.cc
  obtain ⟨A, c, hv, _⟩ := hz.rf.slice i
  have hr := hz.rf.rows i
  have hc := hz.rf.core.cb hi
  rw [hv] at hr hc
  exact ⟨c3, hz.rf.core.blk.lt, b, A, c, c1, hc, hz.rf.core.rb.lt, by have := hr.rd; rwa [show (sr.f i).length = (sr.f i).length from rfl] at this⟩
/-- The beginning. -/
theorem JS.start {m b f : Nat} {V V2 : Nat → Value} (h1 : DI w1 g m V sp) (n1 : New w w1) (o1 : ∀ k, ownD g m V k → w.heap.size ≤ k) (h2 : RI w2 g2 b f V2 sr) (n2 : New w1 w2) (o2 : ∀ k, ownR g2 b f V2 k → w1.heap.size ≤ k) : ∃ U, JS U w g g2 sp sr (.pointer none) none (.pointer none) none w2 :=
  ⟨_, m, V, b, f, V2, ⟨n1.trans n2 (fun _ _ h => h), h1.new n2, h2, o1, fun k hk => Nat.le_trans n1.size (o2 k hk), fun k hk hr => by have := h1.lt hk; have := o2 k hr; omega, rfl, rfl⟩, rfl⟩
end
end Go.Proofs.Ytffehmfjcglalaa
