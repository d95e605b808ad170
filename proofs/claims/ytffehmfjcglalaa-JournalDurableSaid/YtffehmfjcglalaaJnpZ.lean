/- Steps of regions with rows of bytes; fresh disks; what the laws of the journal ask. -/
import Derived.Test.YtffehmfjcglalaaJnoZ
import Derived.Test.YtffehmfjcglalaaLives7Z
import Derived.Test.YtffehmfjcglalaaMemMk
set_option linter.unusedSimpArgs false
set_option linter.unusedVariables false
namespace Go.Proofs.Ytffehmfjcglalaa
set_option linter.unusedVariables false
open Go.RowKit Go.Mem Go.Dk Go.Pure Go.Jn Go.Col

theorem fresh_any (room : Int) (hr : 0 ≤ room ∧ room ≤ 16777216) (w : World) : Calls Try.prog 9 #[.int .i64 room] w fun e w' => ∃ g m, e = .returned (.pointer (some ⟨g, 0, none⟩)) ∧ DI w' g m (fun _ => .slice none 0 0) (Dk.new room.toNat) ∧ New w w' ∧ w.heap.size ≤ g ∧ w.heap.size ≤ m := by
  go_enter Try.func9, Try.ntmps9
  go_wp2_with (go_at_call 30; refine (dNew_any room hr w).mono ?_; rintro e w' ⟨g, m, rfl, h1, h2, h3, h4⟩; have H := Lib.hid (And.intro h1 (And.intro h2 (And.intro h3 h4))); clear h1 h2 h3 h4)
  go_ret
  exact ⟨g, m, rfl, H.out.1, H.out.2.1, H.out.2.2.1, H.out.2.2.2⟩
section
variable {w : World} {c : Colr} {v u : Value} {ls l0 l1 : List (List UInt8)} {n : Nat}
theorem k_fresh {room : Int} {s : S} (hn : ([n].contains 0 || [n].contains 1) = false) (hr : 0 ≤ room ∧ room ≤ 16777216) (e : Dk.new room.toNat = s) : CE Try.prog 9 #[.int .i64 room] w c [n] (fun u w' c' => (dkO n s).sat u w' c') := by
  intro hg
  subst e
  refine (fresh_any room hr w).mono ?_
  rintro e w' ⟨g, m, rfl, h1, h2, h3, h4⟩
  refine ⟨_, _, rfl, ⟨g, m, _, rfl, h1, fun k hk => ?_⟩, Ext.of_obj (own := fun k => decide (k = g ∨ k = m)) hg hn h2 (fun k hk _ => hk.elim) (fun k hk cs t x hb v hv => nb_no v)⟩
  rcases hk with rfl | rfl | ⟨i, hi⟩
  · exact extO_own h3 (by simp)
  · exact extO_own h4 (by simp)
  · cases hi
theorem k_jlives : CV Try.prog 18 #[] w c (TyC.eq (.bool true)) := by
  refine CV.of_newc (R := fun u _ => u = .bool true) ((lives_any w).mono ?_) (fun u w' _ h => h)
  rintro e w' ⟨rfl, hN⟩
  exact ⟨_, rfl, rfl, hN⟩
/-- append. -/
theorem rv_app {P : Program} {t : TypeId} (hE : Elem P t 33 (.slice none 0 0) 24) (hg : GI w c) (hn : ([n].contains 0 || [n].contains 1) = false) (h : (rvO n l0).sat v w c) (hu : (rowsC l1).sat u w c) (hl : l0.length + l1.length ≤ 1000000) (ty : TypeId) :
    ∃ v' w' c', (Builtin.append_ #[t, t] ty #[v, u]).run P w = .ok v' w' ∧ (rvO n (l0 ++ l1)).sat v' w' c' ∧ Ext [n] w c w' c' := by
  obtain ⟨vs, h1, h2, hvl, hm, h4⟩ := h
  obtain ⟨A, cp, us, rfl, hr, hcp, hm1, _, q4⟩ := hu
  have hul := hr.len
  obtain ⟨v', w', hrun, h5, h6, h7, h8⟩ := RowV.app (P := P) hE rfl trivial t ty h1 (src_rd (c := cp) hE.1 hr (fun u hu => by
    obtain ⟨i, hi, rfl⟩ := List.mem_iff_getElem.1 hu
    obtain ⟨A', cp', e, _⟩ := q4 i (l1[i]'(by omega)) _ (List.getElem?_eq_getElem _) (List.getElem?_eq_getElem hi)
    rw [e]
    rfl)) (fun _ _ => trivial) (by omega) (by omega)
  have hE' : Ext [n] w c w' (extO c w.heap.size n (fun k => decide (k = w.heap.size))) := Ext.of_obj (S := fun k => blkV v = some k) hg hn ⟨h6.os, h6.tape, h6.output, h6.size, fun k hk hs => h6.block k hk (fun e => hs e.symm)⟩ (fun k hk _ => h2 k hk) (fun k hk cs t x hb v hv => nb_no v)
  refine ⟨v', w', _, hrun, ⟨vs ++ us, h5, fun k hk => ?_, by simp [hvl, hul], fun x hx => ?_, fun k x u hx hu => ?_⟩, hE'⟩
  · rcases h7 with h7 | ⟨h7, _⟩
    · rw [h7] at hk
      rw [extO_old (h1.lt hk)]
      exact h2 k hk
    · rw [h7] at hk
      injection hk with hk
      subst hk
      exact extO_own (Nat.le_refl _) (by simp)
  · rcases List.mem_append.1 hx with hx | hx
    · exact hm x hx
    · exact hm1 x hx
  · by_cases hlt : k < l0.length
    · rw [List.getElem?_append_left hlt] at hx
      rw [List.getElem?_append_left (by omega)] at hu
      exact (byC x).stab (h4 k x u hx hu) hg hE'
    · rw [List.getElem?_append_right (by omega)] at hx hu
      rw [hvl] at hu
      exact (byC x).stab (q4 _ x u hx hu) hg hE'
theorem elemRows : Elem Try.prog 27 33 (.slice none 0 0) 24 := Elem.mk' Try.underlying27 (by kernel_rfl) rfl
theorem byC_made {m : Nat} {e : TypeId} : (byC (List.replicate m 0)).sat (.slice (some ⟨w.heap.size, 0, none⟩) m m) (w.alloc (.cells (madeCells #[.int .u8 0] m) e)) (ext0 c w.heap.size) := by
  have h := byC_lit (w := w) (c := c) (List.replicate m 0) (e := e)
  rw [List.length_replicate] at h
  have e : (bs (List.replicate m 0)).toArray = madeCells #[.int .u8 0] m := by
    apply Array.toList_inj.1
    rw [toList_madeCells_one]
    simp [bs, By]
  rwa [e] at h
end
theorem run_mkn {P : Program} {t e : TypeId} {z : Value} {bytes n : Nat} (hE : Elem P t e z bytes) (hz : z.cells = #[z]) (hn : n ≤ 1000000) (b2 : bytes ≤ 1000) (W : World) :
    (Instr.makeSlice t (.int .i64 (n : Int)) (.int .i64 (n : Int))).run P W = .ok (.slice (some ⟨W.heap.size, 0, none⟩) n n) (W.alloc (.cells (madeCells #[z] n) e)) := by
  obtain ⟨ht, ⟨i, hi, hz0, hz1, hz2⟩, hzs⟩ := hE
  have hb' : (i.bytes : Int) * (n : Int) ≤ 281474976710656 := by
    rw [hz2]
    have h : bytes * n ≤ 1000 * 1000000 := Nat.mul_le_mul b2 hn
    have h2 : ((bytes * n : Nat) : Int) ≤ 281474976710656 := by omega
    rwa [Int.natCast_mul] at h2
  have hr := run_make (P := P) W t e i z ht hi hz0 .i64 .i64 n n (by omega) (Int.le_refl _) hb' (by omega)
  simp only [Int.toNat_natCast, hz1, Nat.mul_one] at hr
  rwa [hz] at hr
section
variable {P : Program} {l : List Oper} {dt : List (List Nat)} {Q : Exit → Act → World → Prop} {n : Nat} {a : Act} {m : Nat → Option Value} {D CB : List Nat} {Fs : List RF} {V : Nat → TyC} {w0 : World} {c0 : Colr} {i : Nat}
/-- append to rows that own their row; the slot p is written later. -/
theorem sApV (nc d p j : Nat) {o : Oper} {t : TypeId} {l0 l1 : List (List UInt8)} {σ : TyO} {F0 : RF} (r0 r1 : XA n l dt m D i) (hE_ : Elem P t 33 (.slice none 0 0) 24) (H0 : ∀ {b : BB} {f : FF} {w : World} {c : Colr} {v : Value}, Kx dt w0 c0 CB Fs i b f w c → r0.r.T V w c v → (rvO nc l0).sat (r0.r.W v) w c) (H1 : ∀ {b : BB} {f : FF} {w : World} {c : Colr} {v : Value}, Kx dt w0 c0 CB Fs i b f w c → r1.r.T V w c v → (rowsC l1).sat (r1.r.W v) w c) (hl : l0.length + l1.length ≤ 1000000)
    (hi : nthL l i = some o := by rfl) (hop : o.op = .call { callee := .builtin .append, args := #[r0.r.opd, r1.r.opd], argTypes := #[t, t] } := by rfl) (hd : o.dst = some d := by rfl) (hA : Fs.filter (aff [nc] i (some d)) = [.own d (rvO nc (l0 ++ l1)), .own p σ, .st i Fact.tru F0] := by rfl) (hj : dep dt j i = true ∧ dstOf l j = some p := by exact ⟨rfl, rfl⟩) (hpd : (p == d) = false := by rfl)
    (hCB : [nc].all (CB.contains ·) = true := by rfl) (hn : ([nc].contains 0 || [nc].contains 1) = false := by rfl) (hV : V d = TyC.any := by rfl) (hg : Gd l n dt V i o.guard := by first | exact trivial | exact ⟨rfl, _, ⟨rfl, rfl⟩, rfl⟩) : OpStep P l dt Q n a m D CB Fs V w0 c0 i := by
  intro b f w c x o' hJ hout hF hE ho K
  obtain rfl : o = o' := Option.some.inj (hi.symm.trans ho)
  obtain ⟨v0, ev0, sv0⟩ := r0.ev hJ hout hF hE K
  obtain ⟨v1, ev1, sv1⟩ := r1.ev hJ hout hF hE K
  obtain ⟨v2, w2, c2, r1', r2', r4'⟩ := rv_app (P := P) (t := t) hE_ hJ.gi hn (H0 K sv0) (H1 K sv1) hl o.type
  have he : (execOp x.eval o).run P w = .ok (.value v2) w2 := by
    simp [execOp, hop, resolve, invoke, builtin, ev0, ev1, r1', Result.andThen]
  refine .run [nc] (some d) (hg.wanted hJ hF hE K) hd hCB (wp_val he ⟨_, c2, rfl, r4', fun d' _ => ?_, ?_⟩)
  · injection ‹some d = some d'› with hdd
    subst hdd
    rw [hV]
    trivial
  · rw [hA]
    exact ⟨own_now r2', own_nyet hpd (unset_of hJ (K.nyet j hj.1) hj.2), ⟨fun _ => trivial, fun hb => by simp [bup] at hb⟩, trivial⟩
/-- A literal of one row. -/
theorem sLR1 (d : Nat) {o : Oper} {ty e : TypeId} {y : List UInt8} (r0 : XA n l dt m D i) (hy : y.length ≤ maxLen) (H0 : ∀ {b : BB} {f : FF} {w : World} {c : Colr} {v : Value}, Kx dt w0 c0 CB Fs i b f w c → r0.r.T V w c v → (byC y).sat (r0.r.W v) w c) (hrun : ∀ (A : Option Addr) (q cp : Nat) (w : World), (Instr.buildSlice ty 1 #[(0, .slice A q cp)]).run P w = .ok (.slice (some ⟨w.heap.size, 0, none⟩) 1 1) (w.alloc (.cells #[.slice A q cp] e))) (hi : nthL l i = some o := by rfl) (hop : o.op = .buildSlice ty 1 #[(0, r0.r.opd)] := by rfl) (hd : o.dst = some d := by rfl) (hA : Fs.filter (aff [] i (some d)) = [] := by rfl) (hV : V d = rowsC [y] := by rfl) (hg : Gd l n dt V i o.guard := by first | exact trivial | exact ⟨rfl, _, ⟨rfl, rfl⟩, rfl⟩) : OpStep P l dt Q n a m D CB Fs V w0 c0 i := by
  intro b f w c x o' hJ hout hF hE ho K
  obtain rfl : o = o' := Option.some.inj (hi.symm.trans ho)
  obtain ⟨v0, ev0, sv0⟩ := r0.ev hJ hout hF hE K
  have hby := H0 K sv0
  obtain ⟨A, cp, hv, _⟩ := id hby
  have ev := ev0.trans hv
  rw [hv] at hby
  have he' : (execOp x.eval o).run P w = .ok (.value (.slice (some ⟨w.heap.size, 0, none⟩) 1 1)) (w.alloc (.cells #[.slice A y.length cp] e)) := by
    simp [execOp, hop, ev, hrun, Result.andThen]
  refine .run [] (some d) (hg.wanted hJ hF hE K) hd rfl (wp_val he' ⟨_, _, rfl, Ext.allocP hJ.gi, fun d' e => ?_, ?_⟩)
  · injection e with e
    subst e
    rw [hV]
    refine ⟨_, _, [.slice A y.length cp], rfl, ⟨rfl, fun _ => ⟨_, rfl, fun j u hu => ?_⟩⟩, Nat.le_refl _, fun x hx => ?_, fun ad hA => ?_, fun k x u hx hu => ?_⟩
    · rw [Addr.add_lit, Nat.zero_add]
      exact (Blk.new w _ _).cell j (by simpa using hu)
    · simp at hx; subst hx; exact hy
    · injection hA with hA
      subst hA
      exact ⟨by simp, by simp [ext0]⟩
    · match k, hx, hu with
      | 0, hx, hu =>
        simp at hx hu
        subst hx hu
        exact (byC y).stab hby hJ.gi (Ext.allocP hJ.gi)
      | k + 1, hx, hu => simp at hx
  · rw [hA]
    trivial
/-- x[:k] of rows. -/
theorem sSlR (d : Nat) {o : Oper} {t e : TypeId} {z : Value} {bytes : Nat} {x0 y0 : List (List UInt8)} {k : Nat} (r0 r1 : XA n l dt m D i) (hE_ : Elem P t e z bytes) (hz : ∀ {b : BB} {f : FF} {w : World} {c : Colr} {v : Value}, Kx dt w0 c0 CB Fs i b f w c → r0.r.T V w c v → (rowsC x0).sat (r0.r.W v) w c) (hz2 : ∀ {b : BB} {f : FF} {w : World} {c : Colr} {v : Value}, Kx dt w0 c0 CB Fs i b f w c → r1.r.T V w c v → r1.r.W v = .int .i64 (k : Int)) (hk : k ≤ x0.length) (hy : x0.take k = y0) (hi : nthL l i = some o := by rfl) (hop : o.op = .slice t r0.r.opd none (some r1.r.opd) none := by rfl) (hd : o.dst = some d := by rfl) (hA : Fs.filter (aff [] i (some d)) = [] := by rfl) (hV : V d = rowsC y0 := by rfl) (hg : Gd l n dt V i o.guard := by first | exact trivial | exact ⟨rfl, _, ⟨rfl, rfl⟩, rfl⟩) : OpStep P l dt Q n a m D CB Fs V w0 c0 i := by
  intro b f w c x o' hJ hout hF hE ho K
  obtain rfl : o = o' := Option.some.inj (hi.symm.trans ho)
  obtain ⟨v0, ev0, sv0⟩ := r0.ev hJ hout hF hE K
  obtain ⟨v1, ev1, sv1⟩ := r1.ev hJ hout hF hE K
  have h1 := hz K sv0
  have h2 := ev1.trans (hz2 K sv1)
  obtain ⟨A, cp, vs, hv, hrd, hcp, hc⟩ := id h1
  have hkc : k ≤ cp := Nat.le_trans hk hcp
  have hrun := run_upto (P := P) hE_ .i64 A x0.length cp k k rfl hkc w
  subst hy
  exact .pure (v := .slice A k cp) d (hg.wanted hJ hF hE K) hd (by rw [hA]; trivial) hJ.gi (by simp [execOp, hop, ev0.trans hv, h2, Instr.sliceAt, run_underlying hE_.1, hrun, Result.andThen]) (by rw [hV]; rw [hv] at h1; exact rows_take h1 hk)
/-- make([]byte, k). -/
theorem sMkB (d k : Nat) {o : Oper} {t e : TypeId} {z : Int} (hE_ : Elem P t e (.int .u8 0) 1) (hk : k ≤ 1000000) (hz : z = (k : Int)) (hi : nthL l i = some o := by rfl) (hop : o.op = .makeSlice t (.const (.int .i64 z)) (.const (.int .i64 z)) := by rfl) (hd : o.dst = some d := by rfl) (hA : Fs.filter (aff [] i (some d)) = [] := by rfl) (hV : V d = byC (List.replicate k 0) := by rfl) (hg : Gd l n dt V i o.guard := by first | exact trivial | exact ⟨rfl, _, ⟨rfl, rfl⟩, rfl⟩) : OpStep P l dt Q n a m D CB Fs V w0 c0 i := by
  intro b f w c x o' hJ hout hF hE ho K
  obtain rfl : o = o' := Option.some.inj (hi.symm.trans ho)
  subst hz
  have hrun := run_mkn (P := P) hE_ rfl hk (by omega) w
  have he' : (execOp x.eval o).run P w = .ok (.value (.slice (some ⟨w.heap.size, 0, none⟩) k k)) (w.alloc (.cells (madeCells #[.int .u8 0] k) e)) := by
    simp [execOp, hop, Act.eval, hrun, Result.andThen]
  refine .run [] (some d) (hg.wanted hJ hF hE K) hd rfl (wp_val he' ⟨_, _, rfl, Ext.allocP hJ.gi, fun d' e => ?_, ?_⟩)
  · injection e with e
    subst e
    rw [hV]
    exact byC_made
  · rw [hA]
    trivial
end
theorem rb_nil {w : World} : Rb (.slice none 0 0) w [] := ⟨none, 0, rfl, Rd.nil _ _, fun k hk => by cases hk⟩
theorem rr_nil {w : World} : Rr (.slice none 0 0) w [] := rows_rr (c := fun _ => 0) rows_nilC
theorem lg_sizec {k g a b : Nat} {f : Int} {d : Bool} {w : World} {c : Colr} {v : Value} (e : a = b) (h : (lgM k g (some ⟨f, a, d⟩)).sat v w c) : (lgM k g (some ⟨f, b, d⟩)).sat v w c := e ▸ h
theorem rv_castv {n : Nat} {w : World} {c : Colr} {v : Value} {a b : List (List UInt8)} (e : a = b) (h : (rvO n a).sat v w c) : (rvO n b).sat v w c := e ▸ h
theorem recs_short {l : List Int} : (recsOf l).length ≤ 6 ∧ ∀ b ∈ recsOf l, b.length ≤ 10 := by
  refine ⟨by unfold recsOf; rw [List.length_map, List.length_take]; omega, fun b hb => ?_⟩
  obtain ⟨z, _, rfl⟩ := List.mem_map.1 hb
  exact recOf_len z
theorem recs_at {X : List (List UInt8)} {i : Nat} {b : List UInt8} (hX : ∀ b ∈ X, b.length ≤ 10) (hi : i < X.length) (hb : X.getD i [] = b) : b.length ≤ 10 := by
  subst hb
  rw [List.getD_eq_getElem?_getD, List.getElem?_eq_getElem hi]
  exact hX _ (List.getElem_mem hi)
theorem by_cast {P : Program} {f : Nat} {vs : Array Value} {w : World} {c : Colr} {a b : List UInt8} (e : a = b) (h : CV P f vs w c (byC a)) : CV P f vs w c (byC b) := e ▸ h
theorem recs_cast {P : Program} {f : Nat} {vs : Array Value} {w : World} {c : Colr} {a b : List (List UInt8)} (e : a = b) (h : CV P f vs w c (rowsC a)) : CV P f vs w c (rowsC b) := e ▸ h
theorem rows_indexE {w : World} {c : Colr} {v : Value} {ls : List (List UInt8)} {i : Nat} {x : List UInt8} (h : (rowsC ls).sat v w c) (h1 : i < ls.length) (e : ls.getD i [] = x) : ∃ p, (Instr.indexAt 27 v (.int .i64 (i : Int))).run Try.prog w = .ok p w ∧ (refBC x).sat p w c := e ▸ rows_index h h1
end Go.Proofs.Ytffehmfjcglalaa
