/- disk.Disk as an object of a colour: coloured contracts; plain ints and bytes. -/
import Derived.Test.YtffehmfjcglalaaDkKZ
import Derived.Test.YtffehmfjcglalaaG2
set_option linter.unusedSimpArgs false
set_option linter.unusedVariables false
namespace Go.Proofs.Ytffehmfjcglalaa
set_option linter.unusedVariables false
open Go.RowKit Go.Mem Go.Dk Go.Col

/-- Ints in a plain block. -/
def isC (l : List Int) : TyC := ⟨fun v w c => ∃ A cp, v = .slice A l.length cp ∧ Rd w A l.length (is l) ∧ ∀ ad, A = some ad → ad.block < w.heap.size ∧ c ad.block = 0, fun {S v w c w' c'} ⟨A, cp, h1, h2, h5⟩ g e => ⟨A, cp, h1, rd_ext0 h2 (fun ad h _ => (h5 ad h).2) e, fun ad h6 => ⟨Nat.lt_of_lt_of_le (h5 ad h6).1 e.chg.size, by rw [e.col _ (h5 ad h6).1, (h5 ad h6).2]⟩⟩⟩
theorem isC_nil {w : World} {c : Colr} : (isC []).sat (.slice none 0 0) w c := ⟨none, 0, rfl, Rd.nil _ _, fun ad h => by cases h⟩
theorem byC_nil {w : World} {c : Colr} : (byC []).sat (.slice none 0 0) w c := ⟨none, 0, rfl, Rd.nil _ _, Nat.le_refl _, fun ad h => by cases h⟩
/-- A disk, of a colour. -/
def dkO (n : Nat) (s : S) : TyO := ⟨[n], fun v w c => ∃ g m V, v = .pointer (some ⟨g, 0, none⟩) ∧ DI w g m V s ∧ ∀ k, ownD g m V k → c k = n, fun {S v w c w' c'} ⟨g, m, V, h1, h2, h3⟩ gi e hn => by
  have hS : S.contains n = false := by simpa using hn
  exact ⟨g, m, V, h1, h2.chg e.chg (fun k hk ht => by rw [h3 k hk, hS] at ht; cases ht), fun k hk => (e.col k (h2.lt hk)).trans (h3 k hk)⟩⟩
theorem nb_no (v : Value) : NB v = false := by cases v <;> rfl
section
variable {w : World} {c : Colr} {v : Value} {n : Nat} {s : S}
theorem dk_ptr (h : (dkO n s).sat v w c) : ∃ g, v = .pointer (some ⟨g, 0, none⟩) := by
  obtain ⟨g, m, V, rfl, _⟩ := h
  exact ⟨g, rfl⟩
theorem dk_wf (h : (dkO n s).sat v w c) : WF s := by
  obtain ⟨g, m, V, rfl, h, _⟩ := h
  exact h.wf
/-- What a call that changes a disk leaves. -/
theorem dk_did {w' : World} {g m : Nat} {V V' : Nat → Value} {s' : S} (hg : GI w c) (hn : ([n].contains 0 || [n].contains 1) = false) (h : DI w g m V s) (hc : ∀ k, ownD g m V k → c k = n) (h' : DI w' g m V' s') (hd : Did w w' g m V V') :
    ∃ c', (dkO n s').sat (.pointer (some ⟨g, 0, none⟩)) w' c' ∧ Ext [n] w c w' c' := by
  refine ⟨extO c w.heap.size n (fun k => @decide (ownD g m V' k) (Classical.propDecidable _)), ⟨g, m, V', rfl, h', fun k hk => ?_⟩, Ext.of_obj hg hn hd.chg (fun k hk _ => hc k hk) (fun k hk cs t x hb v hv => nb_no v)⟩
  by_cases hlt : k < w.heap.size
  · rw [extO_old hlt]
    rcases hd.own k hk with h1 | h1
    · exact hc k h1
    · omega
  · exact extO_own (by omega) (by simpa using hk)
theorem k_dnew {room : Int} (hn : ([n].contains 0 || [n].contains 1) = false) (hr : 0 ≤ room ∧ room ≤ 16777216) : CE Try.prog 30 #[.int .i64 room] w c [n] (fun u w' c' => (tupO [dkO n (Dk.new room.toNat), TyO.of (TyC.eq (.int .i64 0))]).sat u w' c') := by
  intro hg
  refine (dNew_any room hr w).mono ?_
  rintro e w' ⟨g, m, rfl, h1, h2, h3, h4⟩
  have hE : Ext [n] w c w' (extO c w.heap.size n (fun k => decide (k = g ∨ k = m))) := Ext.of_obj hg hn h2 (fun k hk _ => hk.elim) (fun k hk cs t x hb v hv => nb_no v)
  refine ⟨_, _, rfl, tupO_two (σ := dkO n (Dk.new room.toNat)) (τ := TyO.of (TyC.eq (.int .i64 0))) ⟨g, m, _, rfl, h1, fun k hk => ?_⟩ rfl, hE⟩
  rcases hk with rfl | rfl | ⟨i, hi⟩
  · exact extO_own h3 (by simp)
  · exact extO_own h4 (by simp)
  · cases hi
theorem k_dappend {u : Value} {file : Int} {l : List UInt8} (hn : ([n].contains 0 || [n].contains 1) = false) (h : (dkO n s).sat v w c) (hb : (byC l).sat u w c) (hl : l.length ≤ 1000000000) :
    CE Try.prog 19 #[v, .int .i64 file, u] w c [n] (fun x w' c' => x = .int .i64 (append s file l).2 ∧ (dkO n (append s file l).1).sat v w' c') := by
  intro hg
  obtain ⟨g, m, V, rfl, h1, h2⟩ := h
  obtain ⟨A, cp, rfl, h3, _, h4⟩ := hb
  refine (dAppend_any g m V s w h1 file A l.length cp l h3 hl).mono ?_
  rintro e w' ⟨rfl, V', h5, h6⟩
  obtain ⟨c', h7, h8⟩ := dk_did hg hn h1 h2 h5 h6
  exact ⟨_, c', rfl, ⟨rfl, h7⟩, h8⟩
theorem k_dsync (hn : ([n].contains 0 || [n].contains 1) = false) (h : (dkO n s).sat v w c) : CE Try.prog 33 #[v] w c [n] (fun x w' c' => x = .int .i64 (sync s).2 ∧ (dkO n (sync s).1).sat v w' c') := by
  intro hg
  obtain ⟨g, m, V, rfl, h1, h2⟩ := h
  refine (dSync_any g m V s w h1).mono ?_
  rintro e w' ⟨rfl, h5, h6⟩
  obtain ⟨c', h7, h8⟩ := dk_did hg hn h1 h2 h5 h6
  exact ⟨_, c', rfl, ⟨rfl, h7⟩, h8⟩
theorem k_dtrunc {file size : Int} (hn : ([n].contains 0 || [n].contains 1) = false) (h : (dkO n s).sat v w c) : CE Try.prog 32 #[v, .int .i64 file, .int .i64 size] w c [n] (fun x w' c' => x = .int .i64 (truncate s file size).2 ∧ (dkO n (truncate s file size).1).sat v w' c') := by
  intro hg
  obtain ⟨g, m, V, rfl, h1, h2⟩ := h
  refine (dTruncate_any g m V s w h1 file size).mono ?_
  rintro e w' ⟨rfl, V', h5, h6⟩
  obtain ⟨c', h7, h8⟩ := dk_did hg hn h1 h2 h5 h6
  exact ⟨_, c', rfl, ⟨rfl, h7⟩, h8⟩
theorem k_darm {k : Int} (hn : ([n].contains 0 || [n].contains 1) = false) (h : (dkO n s).sat v w c) (hk : -9223372036854775808 ≤ k ∧ k ≤ 9223372036854775807) : CE Try.prog 24 #[v, .int .i64 k] w c [n] (fun x w' c' => x = .tuple #[] ∧ (dkO n (arm s k)).sat v w' c') := by
  intro hg
  obtain ⟨g, m, V, rfl, h1, h2⟩ := h
  refine (dArm_any g m s k hk w h1.core.blk).mono ?_
  rintro e w' ⟨rfl, h5, h6⟩
  have hf : (arm s k).f = s.f ∧ (arm s k).firm = s.firm := by unfold arm; split <;> exact ⟨rfl, rfl⟩
  obtain ⟨h7, h8⟩ := h1.cells hf h5 h6 (h1.wf.arm hk.2)
  obtain ⟨c', h9, h10⟩ := dk_did hg hn h1 h2 h7 h8
  exact ⟨_, c', rfl, ⟨rfl, h9⟩, h10⟩
theorem k_dcrash {u : Value} {keep : List Int} {flip : Int} (hn : ([n].contains 0 || [n].contains 1) = false) (h : (dkO n s).sat v w c) (hk : (isC keep).sat u w c) (hl : keep.length ≤ 1000000000) (hkr : ∀ z ∈ keep, -9223372036854775808 ≤ z ∧ z ≤ 9223372036854775807) (hf : -9223372036854775808 ≤ flip ∧ flip ≤ 9223372036854775807) :
    CE Try.prog 21 #[v, u, .int .i64 flip] w c [n] (fun x w' c' => x = .tuple #[] ∧ (dkO n (crash s keep flip)).sat v w' c') := by
  intro hg
  obtain ⟨g, m, V, rfl, h1, h2⟩ := h
  obtain ⟨A, cp, rfl, h3, h4⟩ := hk
  refine (dCrash_any g m V s w h1 A keep.length cp keep h3 (fun k hk => ?_) hl hkr flip hf).mono ?_
  · cases A with
    | none => cases hk
    | some ad =>
      have e : ad.block = k := by simpa [blk] using hk
      subst e
      obtain ⟨h5, h6⟩ := h4 ad rfl
      refine ⟨fun ho => ?_, h5⟩
      have h7 := h2 _ ho
      rw [h6] at h7
      subst h7
      simp at hn
  rintro e w' ⟨rfl, V', h5, h6⟩
  obtain ⟨c', h7, h8⟩ := dk_did hg hn h1 h2 h5 h6
  exact ⟨_, c', rfl, ⟨rfl, h7⟩, h8⟩
theorem k_dread {file : Int} (h : (dkO n s).sat v w c) : CV Try.prog 28 #[v, .int .i64 file] w c ((byC (read s file).1).tup1 (.int .i64 (read s file).2)) := by
  obtain ⟨g, m, V, rfl, h1, h2⟩ := h
  refine CV.of_newc (R := fun u w' => ∃ A cp, u = .tuple #[.slice A (read s file).1.length cp, .int .i64 (read s file).2] ∧ w'.ownsRow w.heap.size 5 1 (.slice A (read s file).1.length cp) (read s file).1.length (bs (read s file).1)) ((dRead_any g m V s w h1 file).mono ?_) ?_
  · rintro e w' ⟨A, cp, rfl, h5, h6⟩
    exact ⟨_, rfl, ⟨A, cp, rfl, h5⟩, h6⟩
  · rintro u w' hN ⟨A, cp, rfl, h5⟩
    refine ⟨_, rfl, A, cp, rfl, Rd.of_own h5, (own_cap h5).1, fun ad hA => ?_⟩
    subst hA
    have := own_blk_le h5 (k := ad.block) rfl
    exact ⟨this.2, by simp [ext0]; intro h; omega⟩
theorem k_dused (h : (dkO n s).sat v w c) : CV Try.prog 12 #[v] w c (TyC.eq (.int .i64 (used s : Int))) := by
  obtain ⟨g, m, V, rfl, h1, h2⟩ := h
  refine CV.of_newc (R := fun u w' => u = .int .i64 (used s : Int)) ((dUsed_any g m V s w h1).mono ?_) (fun u w' _ h => h)
  rintro e w' ⟨rfl, h6⟩
  exact ⟨_, rfl, rfl, h6⟩
theorem k_dfiles (h : (dkO n s).sat v w c) : CV Try.prog 42 #[v] w c (isC (filesI s)) := by
  obtain ⟨g, m, V, rfl, h1, h2⟩ := h
  refine CV.of_newc (R := fun u w' => ∃ A cp, u = .slice A (filesI s).length cp ∧ w'.ownsRow w.heap.size 3 1 (.slice A (filesI s).length cp) (filesI s).length (is (filesI s))) ((dFiles_any g m V s w h1).mono ?_) ?_
  · rintro e w' ⟨A, cp, rfl, h5, h6⟩
    exact ⟨_, rfl, ⟨A, cp, rfl, h5⟩, h6⟩
  · rintro u w' hN ⟨A, cp, rfl, h5⟩
    refine ⟨A, cp, rfl, Rd.of_own h5, fun ad hA => ?_⟩
    subst hA
    have := own_blk_le h5 (k := ad.block) rfl
    exact ⟨this.2, by simp [ext0]; intro h; omega⟩
end
end Go.Proofs.Ytffehmfjcglalaa
