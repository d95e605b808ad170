/- A byte slice that owns its row, of a colour, at a seat that bars no value: Few makes one, append keeps it; what DiskHash and DiskPrefix ask. -/
import Derived.Test.YtffehmfjcglalaaDkmZ
import Derived.Test.YtffehmfjcglalaaHash3Z
set_option linter.unusedSimpArgs false
set_option linter.unusedVariables false
namespace Go.Proofs.Ytffehmfjcglalaa
set_option linter.unusedVariables false
open Go.RowKit Go.Mem Go.Dk Go.Col

/-- Bytes that own their row. -/
def bvO (n : Nat) (l : List UInt8) : TyO := ⟨[n], fun v w c => RowV w 5 (fun _ => True) v (bs l) ∧ ∀ k, blkV v = some k → c k = n, fun {S v w c w' c'} ⟨h1, h2⟩ gi e hn => by
  have hS : S.contains n = false := by simpa using hn
  exact ⟨h1.chg e.chg (fun k hk ht => by rw [h2 k hk, hS] at ht; cases ht), fun k hk => (e.col k (h1.lt hk)).trans (h2 k hk)⟩⟩
theorem own_row {w : World} {base : Nat} {t : TypeId} {A : Option Addr} {n cp : Nat} {xs : List Value} (h : w.ownsRow base t 1 (.slice A n cp) n xs) : RowV w t (fun _ => True) (.slice A n cp) xs := by
  obtain ⟨h1, h2 | ⟨g, cap, cur, hv, hb, hg, h3, h4, h5, h6⟩⟩ := h
  · obtain ⟨h2, rfl⟩ := h2
    obtain rfl : xs = [] := List.eq_nil_of_length_eq_zero (by simpa using h1)
    exact .inl ⟨h2, rfl⟩
  · injection hv with hA hn hc
    subst hA hc
    have hl : xs.length = n := by simpa using h1
    refine .inr ⟨g, cp, cur.toList.drop n, by rw [hl], h4, ?_, ?_, fun _ _ => trivial⟩
    · rw [hl, List.length_drop, Array.length_toList, h5]; omega
    · rw [Nat.mul_one] at h6
      rw [← h6, List.take_append_drop]
      exact hg
theorem own_other {d p : Nat} {τ : TyO} {b : BB} {f : FF} {u : Value} {w : World} {c : Colr} (hp : (p == d) = false) (h : ∀ v, f p = some v → τ.sat v w c) : (RF.own p τ).P b (upF (some d) u f) w c := fun v hv => by
  have : upF (some d) u f p = f p := by
    have : ¬ p = d := by simpa using hp
    have h2 : ¬ d = p := fun e => this e.symm
    unfold upF
    split
    · rename_i h3
      injection h3 with h3
      exact absurd h3 h2
    · rfl
  rw [this] at hv
  exact h v hv
section
variable {w : World} {c : Colr} {v u : Value} {n : Nat} {l l' l0 l1 : List UInt8}
/-- Bytes that read. -/
def Rb (v : Value) (w : World) (l : List UInt8) : Prop := ∃ A cp, v = .slice A l.length cp ∧ Rd w A l.length (bs l) ∧ ∀ k, blk A = some k → k < w.heap.size
theorem byC_rb (h : (byC l).sat v w c) : Rb v w l := by
  obtain ⟨A, cp, rfl, h2, _, h3⟩ := h
  refine ⟨A, cp, rfl, h2, fun k hk => ?_⟩
  cases A with
  | none => cases hk
  | some ad =>
    have : ad.block = k := by simpa [blk] using hk
    subst this
    exact (h3 ad rfl).1
theorem bv_rb (h : (bvO n l).sat v w c) : Rb v w l := by
  obtain ⟨h1, h2⟩ := h
  obtain ⟨A, cp, rfl, _⟩ := h1.shape
  have hl : (bs l).length = l.length := by simp [bs]
  rw [hl] at h1 ⊢
  exact ⟨A, cp, rfl, h1.rd, fun k hk => h1.lt hk⟩
theorem bv_nil : (bvO n []).sat (.slice none 0 0) w c := ⟨RowV.nil _ _ _, fun k hk => by cases hk⟩
theorem bv_len {k : Nat} (h : (bvO n l).sat v w c) (e : l.length = k) : ∃ A cp, v = .slice A k cp := by
  subst e
  obtain ⟨A, cp, h1, _⟩ := bv_rb h
  exact ⟨A, cp, h1⟩
theorem bv_castv (e : l = l') (h : (bvO n l).sat v w c) : (bvO n l').sat v w c := e ▸ h
/-- append. -/
theorem bv_app {P : Program} {t : TypeId} (hE : Elem P t 5 (.int .u8 0) 1) (hg : GI w c) (hn : ([n].contains 0 || [n].contains 1) = false) (h : (bvO n l0).sat v w c) (hu : Rb u w l1) (hl : l0.length + l1.length ≤ 100000000) (ty : TypeId) :
    ∃ v' w' c', (Builtin.append_ #[t, t] ty #[v, u]).run P w = .ok v' w' ∧ (bvO n (l0 ++ l1)).sat v' w' c' ∧ (bvO n l0).sat v w' c' ∧ Ext [n] w c w' c' := by
  obtain ⟨h1, h2⟩ := h
  obtain ⟨A, cp, rfl, hr, _⟩ := hu
  have hlen : ∀ l : List UInt8, (bs l).length = l.length := fun l => by simp [bs]
  obtain ⟨v', w', hrun, h3, h4, h5, h6⟩ := RowV.app (P := P) hE rfl trivial t ty h1 (src_rd (c := cp) hE.1 hr (bs_one l1)) (fun _ _ => trivial) (by rw [hlen]; omega) (by rw [hlen]; omega)
  refine ⟨v', w', extO c w.heap.size n (fun k => decide (k = w.heap.size)), hrun, ⟨?_, fun k hk => ?_⟩, ⟨h6, fun k hk => ?_⟩, Ext.of_obj (S := fun k => blkV v = some k) hg hn ⟨h4.os, h4.tape, h4.output, h4.size, fun k hk hs => h4.block k hk (fun e => hs e.symm)⟩ (fun k hk _ => h2 k hk) (fun k hk cs t x hb v hv => nb_no v)⟩
  · have : bs (l0 ++ l1) = bs l0 ++ bs l1 := by simp [bs]
    rw [this]
    exact h3
  · rcases h5 with h5 | ⟨h5, _⟩
    · rw [h5] at hk
      rw [extO_old (h1.lt hk)]
      exact h2 k hk
    · rw [h5] at hk
      injection hk with hk
      subst hk
      exact extO_own (Nat.le_refl _) (by simp)
  · rw [extO_old (h1.lt hk)]
    exact h2 k hk
theorem k_fewO {k : Nat} (hn : ([n].contains 0 || [n].contains 1) = false) (h : (byP l).sat v w c) (hk : k ≤ 1000000) : CE Try.prog 20 #[v, .int .i64 (k : Int)] w c [n] (fun u w' c' => (bvO n (l.take k)).sat u w' c') := by
  intro hg
  obtain ⟨A, cp, rfl, h2, h3, h4, h5⟩ := h
  refine (few_any A l.length cp k l w h2 h3 h4 hk).mono ?_
  rintro e w' ⟨A', cp', rfl, h5, h6⟩
  refine ⟨_, extO c w.heap.size n (fun _ => true), rfl, ⟨own_row h5, fun k hk => ?_⟩, Ext.of_obj hg hn h6 (fun k hk _ => hk.elim) (fun k hk cs t x hb v hv => nb_no v)⟩
  exact extO_own (own_blk_le h5 (by simpa [blkV] using hk)).1 rfl
theorem k_dappendR {file : Int} {s : S} (hn : ([n].contains 0 || [n].contains 1) = false) (h : (dkO n s).sat v w c) (hb : Rb u w l) (hl : l.length ≤ 1000000000) :
    CE Try.prog 19 #[v, .int .i64 file, u] w c [n] (fun x w' c' => x = .int .i64 (append s file l).2 ∧ (dkO n (append s file l).1).sat v w' c') := by
  intro hg
  obtain ⟨g, m, V, rfl, h1, h2⟩ := h
  obtain ⟨A, cp, rfl, h3, h4⟩ := hb
  refine (dAppend_any g m V s w h1 file A l.length cp l h3 hl).mono ?_
  rintro e w' ⟨rfl, V', h5, h6⟩
  obtain ⟨c', h7, h8⟩ := dk_did hg hn h1 h2 h5 h6
  exact ⟨_, c', rfl, ⟨rfl, h7⟩, h8⟩
theorem k_hbytesR {s : ByteArray} (hs : s.size ≤ 1000000) (h : Rb v w l) (hl : l.length ≤ 1000000000) : CV Try.prog 38 #[.string s, v] w c (TyC.eq (.int .u64 (Go.Pure.bytesI s.data.toList l))) := by
  obtain ⟨A, cp, rfl, h2, h3⟩ := h
  refine CV.of_newc (R := fun u _ => u = .int .u64 (Go.Pure.bytesI s.data.toList l)) ((hbytes_any s hs A l.length cp l w h2 hl h3).mono ?_) (fun u w' _ h => h)
  rintro e w' ⟨rfl, hN⟩
  exact ⟨_, rfl, rfl, hN⟩
end
theorem run_eqKn {P : Program} {w : World} (t : TypeId) (k : IntKind) {x y : Int} (h : x ≠ y) : (binOp .eql t (.int k x) (.int k y)).run P w = .ok (.bool false) w := by
  simp [binOp, go_sem, h]
theorem run_eqB {P : Program} {w : World} {t : TypeId} (hp : P.underlying t = some .bool) (a : Bool) : (binOp .eql t (.bool a) (.bool a)).run P w = .ok (.bool true) w := by
  have h : ∀ d : Nat, (Op.equalIn (d + 1) t (.bool a) (.bool a)).run P w = .ok true w := fun d => by
    simp [Op.equalIn, run_underlying hp]
  simp only [binOp]
  simp [Op.equal, Op.maxDepth, h 9999]
theorem eqg_any {P : Program} {w : World} {op : BinOp} {t : TypeId} {x y : Operand} {u v : Value} (h : (eqGuard op t x y u v).run P w = .ok () w) : (eqGuard op t x y u v).run P w = .ok () w := h
section
variable {P : Program} {l : List Oper} {dt : List (List Nat)} {Q : Exit → Act → World → Prop} {n : Nat} {a : Act} {m : Nat → Option Value} {D CB : List Nat} {Fs : List RF} {V : Nat → TyC} {w0 : World} {c0 : Colr} {i : Nat}
/-- append to bytes that are made in the region; the old slice stays valid; the slot p is written later. -/
theorem sApB (nc q kq jq d p jp : Nat) {o : Oper} {t : TypeId} {l0 l1 : List UInt8} {σ : TyO} (r1 : XA n l dt m D i) (hE_ : Elem P t 5 (.int .u8 0) 1) (H1 : ∀ {b : BB} {f : FF} {w : World} {c : Colr} {v : Value}, Kx dt w0 c0 CB Fs i b f w c → r1.r.T V w c v → Rb (r1.r.W v) w l1) (hl : l0.length + l1.length ≤ 100000000)
    (hi : nthL l i = some o := by rfl) (hop : o.op = .call { callee := .builtin .append, args := #[.tmp q, r1.r.opd], argTypes := #[t, t] } := by rfl) (hd : o.dst = some d := by rfl) (hA : Fs.filter (aff [nc] i (some d)) = [.own q (bvO nc l0), .own d (bvO nc (l0 ++ l1)), .own p σ] := by rfl) (hk : nthR Fs kq = .own q (bvO nc l0) := by rfl) (hq : dep dt i jq = true ∧ decide (q < n) = true ∧ dstOf l jq = some q := by exact ⟨rfl, rfl, rfl⟩) (hj : dep dt jp i = true ∧ dstOf l jp = some p := by exact ⟨rfl, rfl⟩) (hpd : (p == d) = false := by rfl) (hqd : (q == d) = false := by rfl)
    (hCB : [nc].all (CB.contains ·) = true := by rfl) (hn : ([nc].contains 0 || [nc].contains 1) = false := by rfl) (hV : V d = TyC.any := by rfl) (hg : Gd l n dt V i o.guard := by first | exact trivial | exact ⟨rfl, _, ⟨rfl, rfl⟩, rfl⟩) : OpStep P l dt Q n a m D CB Fs V w0 c0 i := by
  intro b f w c x o' hJ hout hF hE ho K
  obtain rfl : o = o' := Option.some.inj (hi.symm.trans ho)
  obtain ⟨v, ev, hfv⟩ : ∃ v, x.eval (.tmp q) = v ∧ f q = some v := by
    obtain ⟨h1, h2, h3⟩ := hq
    unfold dstOf at h3
    split at h3
    · rename_i oj hoj
      rw [nthL_eq] at hoj
      have h4 := (hJ.set jq oj q (by simpa using hoj) h3).1 (K.done jq h1)
      cases hf : f q with
      | none => exact absurd hf h4
      | some v => exact ⟨v, hF.in (by rw [hE.1]; exact of_decide_eq_true h2) hf, rfl⟩
    · cases h3
  obtain ⟨v1, ev1, sv1⟩ := r1.ev hJ hout hF hE K
  obtain ⟨v2, w2, c2, r1', r2', r3', r4'⟩ := bv_app (P := P) (t := t) hE_ hJ.gi hn (All.no K.fac kq hk hfv) (H1 K sv1) hl o.type
  have he : (execOp x.eval o).run P w = .ok (.value v2) w2 := by
    simp [execOp, hop, resolve, invoke, builtin, ev, ev1, r1', Result.andThen]
  refine .run [nc] (some d) (hg.wanted hJ hF hE K) hd hCB (wp_val he ⟨_, c2, rfl, r4', fun d' _ => ?_, ?_⟩)
  · injection ‹some d = some d'› with hdd
    subst hdd
    rw [hV]
    trivial
  · rw [hA]
    exact ⟨own_other hqd (fun v' hv' => by rw [hfv] at hv'; injection hv' with hv'; exact hv' ▸ r3'), own_now r2', own_nyet hpd (unset_of hJ (K.nyet jp hj.1) hj.2), trivial⟩
/-- append to bytes of an outer slot; the old slice is given up; the slot p is written later. -/
theorem sApR (nc d p j : Nat) {o : Oper} {t : TypeId} {l0 l1 : List UInt8} {σ : TyO} {F0 : RF} (r0 r1 : XA n l dt m D i) (hE_ : Elem P t 5 (.int .u8 0) 1) (H0 : ∀ {b : BB} {f : FF} {w : World} {c : Colr} {v : Value}, Kx dt w0 c0 CB Fs i b f w c → r0.r.T V w c v → (bvO nc l0).sat (r0.r.W v) w c) (H1 : ∀ {b : BB} {f : FF} {w : World} {c : Colr} {v : Value}, Kx dt w0 c0 CB Fs i b f w c → r1.r.T V w c v → Rb (r1.r.W v) w l1) (hl : l0.length + l1.length ≤ 100000000)
    (hi : nthL l i = some o := by rfl) (hop : o.op = .call { callee := .builtin .append, args := #[r0.r.opd, r1.r.opd], argTypes := #[t, t] } := by rfl) (hd : o.dst = some d := by rfl) (hA : Fs.filter (aff [nc] i (some d)) = [.own d (bvO nc (l0 ++ l1)), .own p σ, .st i Fact.tru F0] := by rfl) (hj : dep dt j i = true ∧ dstOf l j = some p := by exact ⟨rfl, rfl⟩) (hpd : (p == d) = false := by rfl)
    (hCB : [nc].all (CB.contains ·) = true := by rfl) (hn : ([nc].contains 0 || [nc].contains 1) = false := by rfl) (hV : V d = TyC.any := by rfl) (hg : Gd l n dt V i o.guard := by first | exact trivial | exact ⟨rfl, _, ⟨rfl, rfl⟩, rfl⟩) : OpStep P l dt Q n a m D CB Fs V w0 c0 i := by
  intro b f w c x o' hJ hout hF hE ho K
  obtain rfl : o = o' := Option.some.inj (hi.symm.trans ho)
  obtain ⟨v0, ev0, sv0⟩ := r0.ev hJ hout hF hE K
  obtain ⟨v1, ev1, sv1⟩ := r1.ev hJ hout hF hE K
  obtain ⟨v2, w2, c2, r1', r2', r3', r4'⟩ := bv_app (P := P) (t := t) hE_ hJ.gi hn (H0 K sv0) (H1 K sv1) hl o.type
  have he : (execOp x.eval o).run P w = .ok (.value v2) w2 := by
    simp [execOp, hop, resolve, invoke, builtin, ev0, ev1, r1', Result.andThen]
  refine .run [nc] (some d) (hg.wanted hJ hF hE K) hd hCB (wp_val he ⟨_, c2, rfl, r4', fun d' _ => ?_, ?_⟩)
  · injection ‹some d = some d'› with hdd
    subst hdd
    rw [hV]
    trivial
  · rw [hA]
    exact ⟨own_now r2', own_nyet hpd (unset_of hJ (K.nyet j hj.1) hj.2), ⟨fun _ => trivial, fun hb => by simp [bup] at hb⟩, trivial⟩
end
end Go.Proofs.Ytffehmfjcglalaa
