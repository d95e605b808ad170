/- Byte slices that own their row in regions: conversions, a byte stored; literals of strings. No program is named here. -/
import Derived.Test.YtdflpcbkkpgnlaaB0
import Derived.Test.YtdflpcbkkpgnlaaOwZ
import Derived.Lib.ConvBytes
namespace Go.Col
set_option linter.unusedVariables false
open Go.RowKit Go.Mem

/-- The string with these bytes. -/
abbrev Sb (l : List UInt8) : ByteArray := ⟨l.toArray⟩
/-- A byte slice that owns its row, of a colour. -/
def byO (n : Nat) (l : List UInt8) : TyO := ⟨[n], fun v w c => ∃ g cp cs t x, v = .slice (some ⟨g, 0, none⟩) l.length cp ∧ l.length ≤ cp ∧ c g = n ∧ w.heap[g]? = some (.cells cs t x) ∧ (∀ j, j < l.length → (decide (x.1 ≤ j) && decide (j < x.2)) = false) ∧ ∀ (j : Nat) (u : Value), (bs l)[j]? = some u → cs[j]? = some u,
  fun {S v w c w' c'} ⟨g, cp, cs, t, x, h1, h2, h3, h4, h5, h6⟩ gi e hn => by
    have hlt : g < w.heap.size := (Array.getElem?_eq_some_iff.1 h4).1
    exact ⟨g, cp, cs, t, x, h1, h2, (e.col g hlt).trans h3, e.chg.heap h4 (fun hs => by rw [h3] at hs; simp at hn; simp [hn] at hs), h5, h6⟩⟩
section
variable {P : Program} {w w' : World} {c c' : Colr} {n m : Nat} {v : Value} {l : List UInt8}
theorem byO_open (h : (byO n l).sat v w c) (hm : l.length = m) : ∃ g cp, v = .slice (some ⟨g, 0, none⟩) m cp ∧ m ≤ cp := by
  obtain ⟨g, cp, cs, t, x, h1, h2, _⟩ := h
  subst hm
  exact ⟨g, cp, h1, h2⟩
theorem byO_rd (h : (byO n l).sat v w c) : ∃ g cp, v = .slice (some ⟨g, 0, none⟩) l.length cp ∧ l.length ≤ cp ∧ Rd w (some ⟨g, 0, none⟩) l.length (bs l) := by
  obtain ⟨g, cp, cs, t, x, h1, h2, h3, h4, h5, h6⟩ := h
  refine ⟨g, cp, h1, h2, by simp [bs], fun _ => ⟨_, rfl, fun j u hu => ?_⟩⟩
  rw [Addr.add_lit, Nat.zero_add]
  exact (cell_of_row w g j cs t x h4).trans (h6 j u hu)
theorem by_cast {l' : List UInt8} (e : l = l') (h : (byO n l).sat v w c) : (byO n l').sat v w c := e ▸ h
theorem bytes_nb (l : List UInt8) (k : Nat) : ((bs l).toArray ++ Array.replicate k (Value.int .u8 0)).toList.all (fun v => !NB v) = true := by
  rw [all_nb]
  intro v hv
  simp only [Array.toList_append, List.mem_append, Array.toList_replicate, List.mem_replicate, bs, List.mem_map] at hv
  rcases hv with ⟨x, _, rfl⟩ | ⟨_, rfl⟩
  · rfl
  · rfl
theorem bytesCells_eq (w : World) (e : TypeId) (l : List UInt8) : Lib.bytesCells w e (Sb l) = (bs l).toArray ++ Array.replicate (grownCap w (Sb l).size 0 e - (Sb l).size) (Value.int .u8 0) := by
  unfold Lib.bytesCells
  congr 1
  simp [Sb, bs, By]
/-- []byte(s). -/
theorem conv_own {e : TypeId} (l : List UInt8) (g : GI w c) (hS : ([n].contains 0 || [n].contains 1) = false) :
    Ext [n] w c (Lib.bytesWorld w e (Sb l)) (setC c w.heap.size n) ∧ (byO n l).sat (.slice (some ⟨w.heap.size, 0, none⟩) (Sb l).size (grownCap w (Sb l).size 0 e)) (Lib.bytesWorld w e (Sb l)) (setC c w.heap.size n) := by
  have hsz : (Sb l).size = l.length := by simp [Sb, ByteArray.size]
  have hnew := Lib.bytesWorld_at_new w e (Sb l)
  refine ⟨⟨hS, ⟨rfl, rfl, rfl, by rw [Lib.bytesWorld_size]; omega, fun k hk _ => Lib.bytesWorld_at_old w e _ k hk⟩, fun k hk => if_neg (show ¬ k = w.heap.size by omega), fun k h1 h2 => ?_, ?_⟩, ?_⟩
  · rw [Lib.bytesWorld_size] at h2
    obtain rfl : k = w.heap.size := by omega
    exact .inr (.inr (by simp [setC]))
  · intro k cs' t' x hb hc v hv
    by_cases hk : k = w.heap.size
    · subst hk
      rw [hnew] at hb
      injection hb with hb
      injection hb with hb
      subst hb
      rw [bytesCells_eq] at hv
      exact all_nb.1 (bytes_nb l _) v hv
    · have hlt : k < w.heap.size := by
        have := (Array.getElem?_eq_some_iff.1 hb).1
        rw [Lib.bytesWorld_size] at this; omega
      rw [Lib.bytesWorld_at_old w e _ k hlt] at hb
      simp only [setC, if_neg hk] at hc
      exact g k cs' t' x hb hc v hv
  · refine ⟨w.heap.size, _, _, e, _, by rw [hsz], by rw [← hsz]; exact grownCap_ge _ _ _ _, by simp [setC], hnew, fun j hj => ?_, fun j u hu => ?_⟩
    · have : (Lib.bytesCells w e (Sb l)).size ≥ l.length := by rw [bytesCells_eq]; simp [bs]
      simp
      omega
    · rw [bytesCells_eq, Array.getElem?_append_left]
      · simpa using hu
      · have := (List.getElem?_eq_some_iff.1 hu).1
        simpa using this
/-- A byte is stored. -/
theorem by_store {ty : TypeId} {g cp j : Nat} {b : UInt8} (gi : GI w c) (hS : ([n].contains 0 || [n].contains 1) = false) (hty : (P.info? ty).map (·.size) = some 1) (h : (byO n l).sat (.slice (some ⟨g, 0, none⟩) m cp) w c) (hm : l.length = m) (hj : j < m) :
    ∃ w', (storeVar ty ⟨g, j * 1, none⟩ (By b)).run P w = .ok () w' ∧ Ext [n] w c w' c ∧ (byO n (l.set j b)).sat (.slice (some ⟨g, 0, none⟩) m cp) w' c := by
  subst hm
  obtain ⟨g', cp', cs, t, x, h1, h2, h3, h4, h5, h6⟩ := h
  injection h1 with h1 h1' h1''
  injection h1 with h1
  injection h1 with h1
  subst h1 h1''
  have hlt : g < w.heap.size := (Array.getElem?_eq_some_iff.1 h4).1
  have hjc : j < cs.size := by
    have hu : (bs l)[j]? = some (By l[j]) := by simp [bs, hj]
    exact (Array.getElem?_eq_some_iff.1 (h6 j _ hu)).1
  obtain ⟨u, hu⟩ : ∃ u, cs[j]? = some u := ⟨cs[j], by simp [hjc]⟩
  have hcell : w.cell? ⟨g, j, none⟩ = some u := (cell_of_row w g j cs t x h4).trans hu
  have hfr : w.frozen? ⟨g, j, none⟩ = false := by
    unfold World.frozen?
    rw [h4]
    exact h5 j hj
  have hrun : (storeVar ty ⟨g, j * 1, none⟩ (By b)).run P w = .ok () (w.setCell ⟨g, j, none⟩ (By b)) := by
    rw [Nat.mul_one]
    cases hq : P.info? ty with
    | none => rw [hq] at hty; cases hty
    | some d =>
      rw [hq] at hty
      injection hty with hty
      simp [storeVar, sizeOf, typeInfo, hq, By, Value.cells, hty, storeCells, hcell, hfr, Addr.add_lit, Result.andThen, go_sem, Value.oneCell']
  have hblk : (w.setCell ⟨g, j, none⟩ (By b)).heap[g]? = some (.cells (cs.setIfInBounds j (By b)) t x) := by
    simp [World.setCell, Array.getElem?_modify, h4]
  refine ⟨_, hrun, ⟨hS, (Chg.refl _ w).setCell (p := ⟨g, j, none⟩) (fun _ => by simp [h3]) _, fun _ _ => rfl, fun k h1 h2 => ?_, ?_⟩, g, cp, _, t, x, by rw [List.length_set], by rw [List.length_set]; exact h2, h3, hblk, fun k hk => h5 k (by rwa [List.length_set] at hk), fun k u hk => ?_⟩
  · simp [World.setCell] at h2; omega
  · intro k cs' t' x' hb hc v hv
    by_cases hk : k = g
    · subst hk
      rw [hblk] at hb
      injection hb with hb
      injection hb with hb
      subst hb
      simp only [Array.toList_setIfInBounds] at hv
      rcases List.mem_or_eq_of_mem_set hv with hv | rfl
      · exact gi k cs t x h4 hc v hv
      · rfl
    · rw [Below.heap_setCell w ⟨g, j, none⟩ _ k (fun e => hk e)] at hb
      exact gi k cs' t' x' hb hc v hv
  · by_cases hkj : k = j
    · subst hkj
      simp [bs, hj] at hk
      subst hk
      simp [hjc, By]
    · have hk' : (bs l)[k]? = some u := by
        rw [← hk]
        simp [bs, List.getElem?_set_ne (fun e => hkj e.symm)]
      rw [Array.getElem?_setIfInBounds_ne (fun e => hkj e.symm)]
      exact h6 k u hk'
/-- string(b), of the first bytes. -/
theorem by_string {src dst e : TypeId} (hs : P.underlying src = some (.slice e)) (he : P.underlying e = some (.int .u8)) (hd : P.underlying dst = some .string) {g cp cp' k : Nat} (h : (byO n l).sat (.slice (some ⟨g, 0, none⟩) m cp) w c) (hm : l.length = m) (hk : k ≤ m) :
    (convert src dst (.slice (some ⟨g, 0, none⟩) k cp')).run P w = .ok (.string (Sb (l.take k))) w := by
  subst hm
  obtain ⟨g', cp2, q1, q2, q3⟩ := byO_rd h
  injection q1 with q1 q1' q1''
  injection q1 with q1
  injection q1 with q1
  subst q1
  have := q3.take hk
  rw [bs_take] at this
  exact run_tostr hs he hd this
end
theorem RF.in1 {i : Nat} {F1 : Fact} {F0 : RF} {b : BB} {f : FF} {w : World} {c : Colr} (h : (RF.st i F1 F0).P b f w c) (hb : b i = true) : F1.P w c := h.1 hb
theorem RF.in0 {i : Nat} {F1 : Fact} {F0 : RF} {b : BB} {f : FF} {w : World} {c : Colr} (h : (RF.st i F1 F0).P b f w c) (hb : b i = false) : F0.P b f w c := h.2 hb
theorem RF.inS {F : Fact} {b : BB} {f : FF} {w : World} {c : Colr} (h : (RF.s F).P b f w c) : F.P w c := h
theorem st_now' {i : Nat} {F1 : Fact} {F0 : RF} {b : BB} {f : FF} {w : World} {c : Colr} (h : F1.P w c) : (RF.st i F1 F0).P (bup b i) f w c := ⟨fun _ => h, fun hbb => (by rw [bup_at] at hbb; cases hbb)⟩
section
variable {P : Program} {l : List Oper} {dt : List (List Nat)} {Q : Exit → Act → World → Prop} {n : Nat} {a : Act} {m : Nat → Option Value} {D CB : List Nat} {Fs : List RF} {V : Nat → TyC} {w0 : World} {c0 : Colr} {i : Nat}
/-- []byte(s). -/
theorem sCvb (nc d p j : Nat) {o : Oper} {σ : TyO} {src dst e : TypeId} {u : TypeDesc} {x0 : List UInt8} (r0 : XA n l dt m D i) (hs : P.underlying src = some u) (hds : P.underlying dst = some (.slice e)) (he : P.underlying e = some (.int .u8)) (hz : ∀ {b : BB} {f : FF} {w : World} {c : Colr} {v : Value}, Kx dt w0 c0 CB Fs i b f w c → r0.r.T V w c v → r0.r.W v = .string (Sb x0))
    (hi : nthL l i = some o := by rfl) (hop : o.op = .convert src dst r0.r.opd := by rfl) (hd : o.dst = some d := by rfl) (hA : Fs.filter (aff [nc] i (some d)) = [.own d (byO nc x0), .own p σ] := by rfl) (hj : dep dt j i = true ∧ dstOf l j = some p := by exact ⟨rfl, rfl⟩) (hpd : (p == d) = false := by rfl) (hCB : [nc].all (CB.contains ·) = true := by rfl) (hn : ([nc].contains 0 || [nc].contains 1) = false := by rfl) (hV : V d = TyC.any := by rfl) (hg : Gd l n dt V i o.guard := by first | exact trivial | exact ⟨rfl, _, ⟨rfl, rfl⟩, rfl⟩) : OpStep P l dt Q n a m D CB Fs V w0 c0 i := by
  intro b f w c x o' hJ hout hF hE ho K
  obtain rfl : o = o' := Option.some.inj (hi.symm.trans ho)
  obtain ⟨v0, ev0, sv0⟩ := r0.ev hJ hout hF hE K
  have hrun := Lib.run_convert_string_bytes (P := P) w src dst e (Sb x0) hs hds he
  have he' : (execOp x.eval o).run P w = .ok (.value (.slice (some ⟨w.heap.size, 0, none⟩) (Sb x0).size (grownCap w (Sb x0).size 0 e))) (Lib.bytesWorld w e (Sb x0)) := by
    simp [execOp, hop, ev0, hz K sv0, hrun, Result.andThen]
  obtain ⟨q1, q2⟩ := conv_own (n := nc) (w := w) (c := c) (e := e) x0 hJ.gi hn
  refine .run [nc] (some d) (hg.wanted hJ hF hE K) hd hCB (wp_val he' ⟨_, _, rfl, q1, fun d' _ => ?_, ?_⟩)
  · injection ‹some d = some d'› with hdd
    subst hdd
    rw [hV]
    trivial
  · rw [hA]
    exact ⟨own_now q2, own_nyet hpd (unset_of hJ (K.nyet j hj.1) hj.2), trivial⟩
/-- b[j] = x. -/
theorem sStb (nc : Nat) {o : Oper} {ty : TypeId} {g cp k j : Nat} {x0 : List UInt8} {y : UInt8} {F0 : RF} (r0 r1 : XA n l dt m D i) (hty : (P.info? ty).map (·.size) = some 1) (ha : ∀ {b : BB} {f : FF} {w : World} {c : Colr} {v : Value}, Kx dt w0 c0 CB Fs i b f w c → r0.r.T V w c v → r0.r.W v = .pointer (some ⟨g, j * 1, none⟩)) (hb : ∀ {b : BB} {f : FF} {w : World} {c : Colr} {v : Value}, Kx dt w0 c0 CB Fs i b f w c → r1.r.T V w c v → r1.r.W v = By y) (O : ∀ {b : BB} {f : FF} {w : World} {c : Colr}, Kx dt w0 c0 CB Fs i b f w c → (byO nc x0).sat (.slice (some ⟨g, 0, none⟩) k cp) w c) (hm : x0.length = k) (hj : j < k)
    (hi : nthL l i = some o := by rfl) (hop : o.op = .store ty r0.r.opd r1.r.opd := by rfl) (hd : o.dst = none := by rfl) (hA : Fs.filter (aff [nc] i none) = [.st i (Fact.own (byO nc (x0.set j y)) (.slice (some ⟨g, 0, none⟩) k cp)) F0] := by rfl) (hCB : [nc].all (CB.contains ·) = true := by rfl) (hn : ([nc].contains 0 || [nc].contains 1) = false := by rfl) (hg : Gd l n dt V i o.guard := by first | exact trivial | exact ⟨rfl, _, ⟨rfl, rfl⟩, rfl⟩) : OpStep P l dt Q n a m D CB Fs V w0 c0 i := by
  intro b f w c x o' hJ hout hF hE ho K
  obtain rfl : o = o' := Option.some.inj (hi.symm.trans ho)
  obtain ⟨v0, ev0, sv0⟩ := r0.ev hJ hout hF hE K
  obtain ⟨v1, ev1, sv1⟩ := r1.ev hJ hout hF hE K
  obtain ⟨w2, q1, q2, q3⟩ := by_store (P := P) (b := y) hJ.gi hn hty (O K) hm hj
  refine .store nc [nc] rfl (hg.wanted hJ hF hE K) hd hCB hop (ev0.trans (ha K sv0)) (ev1.trans (hb K sv1)) ⟨w2, q1, q2, ?_⟩
  rw [hA]
  exact ⟨st_now' q3, trivial⟩
/-- A call that changes an owned object. -/
theorem sM1 (nc d : Nat) {o : Oper} {fn : Nat} {tys : Array TypeId} {fd : Func} {F1 : Fact} {F0 : RF} (r0 : XA n l dt m D i) (L : ∀ {b : BB} {f : FF} {w : World} {c : Colr} {v0 : Value}, Kx dt w0 c0 CB Fs i b f w c → r0.r.T V w c v0 → CE P fn #[r0.r.W v0] w c [nc] (fun v w' c' => (V d).sat v w' c' ∧ F1.P w' c')) (hfn : P.funcs[fn]? = some fd) (hi : nthL l i = some o := by rfl) (hop : o.op = .call { callee := .value (.func fn), args := #[r0.r.opd], argTypes := tys } := by rfl) (hd : o.dst = some d := by rfl) (hA : Fs.filter (aff [nc] i (some d)) = [.st i F1 F0] := by rfl) (hCB : [nc].all (CB.contains ·) = true := by rfl) (hnb : (fd.name == "runtime.NumGoroutine" || fd.body.isNone) = false := by rfl) (hg : Gd l n dt V i o.guard := by first | exact trivial | exact ⟨rfl, _, ⟨rfl, rfl⟩, rfl⟩) : OpStep P l dt Q n a m D CB Fs V w0 c0 i := by
  intro b f w c x o' hJ hout hF hE ho K
  obtain rfl : o = o' := Option.some.inj (hi.symm.trans ho)
  obtain ⟨v0, ev0, sv0⟩ := r0.ev hJ hout hF hE K
  exact .callE d [nc] (hg.wanted hJ hF hE K) hd hCB hJ.gi hop (vs := #[r0.r.W v0]) (by simp [ev0]) (enter_of hfn hnb _) (L K sv0) (fun v w' c' h _ => ⟨h.1, by rw [hA]; exact ⟨st_now' h.2, trivial⟩⟩)
theorem sM2 (nc d : Nat) {o : Oper} {fn : Nat} {tys : Array TypeId} {fd : Func} {F1 : Fact} {F0 : RF} (r0 : XA n l dt m D i) (r1 : XA n l dt m D i) (L : ∀ {b : BB} {f : FF} {w : World} {c : Colr} {v0 v1 : Value}, Kx dt w0 c0 CB Fs i b f w c → r0.r.T V w c v0 → r1.r.T V w c v1 → CE P fn #[r0.r.W v0, r1.r.W v1] w c [nc] (fun v w' c' => (V d).sat v w' c' ∧ F1.P w' c')) (hfn : P.funcs[fn]? = some fd) (hi : nthL l i = some o := by rfl) (hop : o.op = .call { callee := .value (.func fn), args := #[r0.r.opd, r1.r.opd], argTypes := tys } := by rfl) (hd : o.dst = some d := by rfl) (hA : Fs.filter (aff [nc] i (some d)) = [.st i F1 F0] := by rfl) (hCB : [nc].all (CB.contains ·) = true := by rfl) (hnb : (fd.name == "runtime.NumGoroutine" || fd.body.isNone) = false := by rfl) (hg : Gd l n dt V i o.guard := by first | exact trivial | exact ⟨rfl, _, ⟨rfl, rfl⟩, rfl⟩) : OpStep P l dt Q n a m D CB Fs V w0 c0 i := by
  intro b f w c x o' hJ hout hF hE ho K
  obtain rfl : o = o' := Option.some.inj (hi.symm.trans ho)
  obtain ⟨v0, ev0, sv0⟩ := r0.ev hJ hout hF hE K
  obtain ⟨v1, ev1, sv1⟩ := r1.ev hJ hout hF hE K
  exact .callE d [nc] (hg.wanted hJ hF hE K) hd hCB hJ.gi hop (vs := #[r0.r.W v0, r1.r.W v1]) (by simp [ev0, ev1]) (enter_of hfn hnb _) (L K sv0 sv1) (fun v w' c' h _ => ⟨h.1, by rw [hA]; exact ⟨st_now' h.2, trivial⟩⟩)
theorem sM3 (nc d : Nat) {o : Oper} {fn : Nat} {tys : Array TypeId} {fd : Func} {F1 : Fact} {F0 : RF} (r0 : XA n l dt m D i) (r1 : XA n l dt m D i) (r2 : XA n l dt m D i) (L : ∀ {b : BB} {f : FF} {w : World} {c : Colr} {v0 v1 v2 : Value}, Kx dt w0 c0 CB Fs i b f w c → r0.r.T V w c v0 → r1.r.T V w c v1 → r2.r.T V w c v2 → CE P fn #[r0.r.W v0, r1.r.W v1, r2.r.W v2] w c [nc] (fun v w' c' => (V d).sat v w' c' ∧ F1.P w' c')) (hfn : P.funcs[fn]? = some fd) (hi : nthL l i = some o := by rfl) (hop : o.op = .call { callee := .value (.func fn), args := #[r0.r.opd, r1.r.opd, r2.r.opd], argTypes := tys } := by rfl) (hd : o.dst = some d := by rfl) (hA : Fs.filter (aff [nc] i (some d)) = [.st i F1 F0] := by rfl) (hCB : [nc].all (CB.contains ·) = true := by rfl) (hnb : (fd.name == "runtime.NumGoroutine" || fd.body.isNone) = false := by rfl) (hg : Gd l n dt V i o.guard := by first | exact trivial | exact ⟨rfl, _, ⟨rfl, rfl⟩, rfl⟩) : OpStep P l dt Q n a m D CB Fs V w0 c0 i := by
  intro b f w c x o' hJ hout hF hE ho K
  obtain rfl : o = o' := Option.some.inj (hi.symm.trans ho)
  obtain ⟨v0, ev0, sv0⟩ := r0.ev hJ hout hF hE K
  obtain ⟨v1, ev1, sv1⟩ := r1.ev hJ hout hF hE K
  obtain ⟨v2, ev2, sv2⟩ := r2.ev hJ hout hF hE K
  exact .callE d [nc] (hg.wanted hJ hF hE K) hd hCB hJ.gi hop (vs := #[r0.r.W v0, r1.r.W v1, r2.r.W v2]) (by simp [ev0, ev1, ev2]) (enter_of hfn hnb _) (L K sv0 sv1 sv2) (fun v w' c' h _ => ⟨h.1, by rw [hA]; exact ⟨st_now' h.2, trivial⟩⟩)
theorem sM4 (nc d : Nat) {o : Oper} {fn : Nat} {tys : Array TypeId} {fd : Func} {F1 : Fact} {F0 : RF} (r0 : XA n l dt m D i) (r1 : XA n l dt m D i) (r2 : XA n l dt m D i) (r3 : XA n l dt m D i) (L : ∀ {b : BB} {f : FF} {w : World} {c : Colr} {v0 v1 v2 v3 : Value}, Kx dt w0 c0 CB Fs i b f w c → r0.r.T V w c v0 → r1.r.T V w c v1 → r2.r.T V w c v2 → r3.r.T V w c v3 → CE P fn #[r0.r.W v0, r1.r.W v1, r2.r.W v2, r3.r.W v3] w c [nc] (fun v w' c' => (V d).sat v w' c' ∧ F1.P w' c')) (hfn : P.funcs[fn]? = some fd) (hi : nthL l i = some o := by rfl) (hop : o.op = .call { callee := .value (.func fn), args := #[r0.r.opd, r1.r.opd, r2.r.opd, r3.r.opd], argTypes := tys } := by rfl) (hd : o.dst = some d := by rfl) (hA : Fs.filter (aff [nc] i (some d)) = [.st i F1 F0] := by rfl) (hCB : [nc].all (CB.contains ·) = true := by rfl) (hnb : (fd.name == "runtime.NumGoroutine" || fd.body.isNone) = false := by rfl) (hg : Gd l n dt V i o.guard := by first | exact trivial | exact ⟨rfl, _, ⟨rfl, rfl⟩, rfl⟩) : OpStep P l dt Q n a m D CB Fs V w0 c0 i := by
  intro b f w c x o' hJ hout hF hE ho K
  obtain rfl : o = o' := Option.some.inj (hi.symm.trans ho)
  obtain ⟨v0, ev0, sv0⟩ := r0.ev hJ hout hF hE K
  obtain ⟨v1, ev1, sv1⟩ := r1.ev hJ hout hF hE K
  obtain ⟨v2, ev2, sv2⟩ := r2.ev hJ hout hF hE K
  obtain ⟨v3, ev3, sv3⟩ := r3.ev hJ hout hF hE K
  exact .callE d [nc] (hg.wanted hJ hF hE K) hd hCB hJ.gi hop (vs := #[r0.r.W v0, r1.r.W v1, r2.r.W v2, r3.r.W v3]) (by simp [ev0, ev1, ev2, ev3]) (enter_of hfn hnb _) (L K sv0 sv1 sv2 sv3) (fun v w' c' h _ => ⟨h.1, by rw [hA]; exact ⟨st_now' h.2, trivial⟩⟩)
theorem sM5 (nc d : Nat) {o : Oper} {fn : Nat} {tys : Array TypeId} {fd : Func} {F1 : Fact} {F0 : RF} (r0 : XA n l dt m D i) (r1 : XA n l dt m D i) (r2 : XA n l dt m D i) (r3 : XA n l dt m D i) (r4 : XA n l dt m D i) (L : ∀ {b : BB} {f : FF} {w : World} {c : Colr} {v0 v1 v2 v3 v4 : Value}, Kx dt w0 c0 CB Fs i b f w c → r0.r.T V w c v0 → r1.r.T V w c v1 → r2.r.T V w c v2 → r3.r.T V w c v3 → r4.r.T V w c v4 → CE P fn #[r0.r.W v0, r1.r.W v1, r2.r.W v2, r3.r.W v3, r4.r.W v4] w c [nc] (fun v w' c' => (V d).sat v w' c' ∧ F1.P w' c')) (hfn : P.funcs[fn]? = some fd) (hi : nthL l i = some o := by rfl) (hop : o.op = .call { callee := .value (.func fn), args := #[r0.r.opd, r1.r.opd, r2.r.opd, r3.r.opd, r4.r.opd], argTypes := tys } := by rfl) (hd : o.dst = some d := by rfl) (hA : Fs.filter (aff [nc] i (some d)) = [.st i F1 F0] := by rfl) (hCB : [nc].all (CB.contains ·) = true := by rfl) (hnb : (fd.name == "runtime.NumGoroutine" || fd.body.isNone) = false := by rfl) (hg : Gd l n dt V i o.guard := by first | exact trivial | exact ⟨rfl, _, ⟨rfl, rfl⟩, rfl⟩) : OpStep P l dt Q n a m D CB Fs V w0 c0 i := by
  intro b f w c x o' hJ hout hF hE ho K
  obtain rfl : o = o' := Option.some.inj (hi.symm.trans ho)
  obtain ⟨v0, ev0, sv0⟩ := r0.ev hJ hout hF hE K
  obtain ⟨v1, ev1, sv1⟩ := r1.ev hJ hout hF hE K
  obtain ⟨v2, ev2, sv2⟩ := r2.ev hJ hout hF hE K
  obtain ⟨v3, ev3, sv3⟩ := r3.ev hJ hout hF hE K
  obtain ⟨v4, ev4, sv4⟩ := r4.ev hJ hout hF hE K
  exact .callE d [nc] (hg.wanted hJ hF hE K) hd hCB hJ.gi hop (vs := #[r0.r.W v0, r1.r.W v1, r2.r.W v2, r3.r.W v3, r4.r.W v4]) (by simp [ev0, ev1, ev2, ev3, ev4]) (enter_of hfn hnb _) (L K sv0 sv1 sv2 sv3 sv4) (fun v w' c' h _ => ⟨h.1, by rw [hA]; exact ⟨st_now' h.2, trivial⟩⟩)
/-- min of two ints. -/
theorem sMin (d : Nat) {o : Oper} {ts : Array TypeId} {x y z : Int} (r0 r1 : XA n l dt m D i) (hz : ∀ {w : World} {c : Colr} {v v' : Value}, r0.r.T V w c v → r1.r.T V w c v' → r0.r.W v = .int .i64 x ∧ r1.r.W v' = .int .i64 y) (hm : (x ≤ y ∧ z = x) ∨ (y ≤ x ∧ z = y)) (hi : nthL l i = some o := by rfl) (hop : o.op = .call { callee := .builtin .min, args := #[r0.r.opd, r1.r.opd], argTypes := ts } := by rfl) (hd : o.dst = some d := by rfl) (hA : Fs.filter (aff [] i (some d)) = [] := by rfl) (hV : V d = TyC.eq (.int .i64 z) := by rfl) (hg : Gd l n dt V i o.guard := by first | exact trivial | exact ⟨rfl, _, ⟨rfl, rfl⟩, rfl⟩) : OpStep P l dt Q n a m D CB Fs V w0 c0 i := by
  intro b f w c x o' hJ hout hF hE ho K
  obtain rfl : o = o' := Option.some.inj (hi.symm.trans ho)
  obtain ⟨v0, ev0, sv0⟩ := r0.ev hJ hout hF hE K
  obtain ⟨v1, ev1, sv1⟩ := r1.ev hJ hout hF hE K
  obtain ⟨h1, h2⟩ := hz sv0 sv1
  exact .pure (v := .int .i64 z) d (hg.wanted hJ hF hE K) hd (by rw [hA]; trivial) hJ.gi (by simp [execOp, hop, resolve, invoke, builtin, ev0.trans h1, ev1.trans h2, run_min2 _ _ _ hm, Result.andThen]) (by rw [hV]; rfl)
/-- s[:k] of a known slice. -/
theorem sSlb (d : Nat) {o : Oper} {t e : TypeId} {z : Value} {bytes : Nat} {A : Option Addr} {q cp k : Nat} (r0 r1 : XA n l dt m D i) (hE_ : Elem P t e z bytes) (hz : ∀ {w : World} {c : Colr} {v v' : Value}, r0.r.T V w c v → r1.r.T V w c v' → r0.r.W v = .slice A q cp ∧ r1.r.W v' = .int .i64 (k : Int)) (hk : k ≤ cp) (hi : nthL l i = some o := by rfl) (hop : o.op = .slice t r0.r.opd none (some r1.r.opd) none := by rfl) (hd : o.dst = some d := by rfl) (hA : Fs.filter (aff [] i (some d)) = [] := by rfl) (hV : V d = TyC.eq (.slice A k cp) := by rfl) (hg : Gd l n dt V i o.guard := by first | exact trivial | exact ⟨rfl, _, ⟨rfl, rfl⟩, rfl⟩) : OpStep P l dt Q n a m D CB Fs V w0 c0 i := by
  intro b f w c x o' hJ hout hF hE ho K
  obtain rfl : o = o' := Option.some.inj (hi.symm.trans ho)
  obtain ⟨v0, ev0, sv0⟩ := r0.ev hJ hout hF hE K
  obtain ⟨v1, ev1, sv1⟩ := r1.ev hJ hout hF hE K
  obtain ⟨h1, h2⟩ := hz sv0 sv1
  have hrun := run_upto (P := P) hE_ .i64 A q cp k k rfl hk w
  exact .pure (v := .slice A k cp) d (hg.wanted hJ hF hE K) hd (by rw [hA]; trivial) hJ.gi (by simp [execOp, hop, ev0.trans h1, ev1.trans h2, Instr.sliceAt, run_underlying hE_.1, hrun, Result.andThen]) (by rw [hV]; rfl)
/-- string(b) of the first bytes of an owned row. -/
theorem sCvs (d nc : Nat) {o : Oper} {src dst e : TypeId} {g q cp cp' k : Nat} {x0 y0 : List UInt8} (r0 : XA n l dt m D i) (hs : P.underlying src = some (.slice e)) (he : P.underlying e = some (.int .u8)) (hds : P.underlying dst = some .string) (hz : ∀ {w : World} {c : Colr} {v : Value}, r0.r.T V w c v → r0.r.W v = .slice (some ⟨g, 0, none⟩) k cp') (O : ∀ {b : BB} {f : FF} {w : World} {c : Colr}, Kx dt w0 c0 CB Fs i b f w c → (byO nc x0).sat (.slice (some ⟨g, 0, none⟩) q cp) w c) (hm : x0.length = q) (hk : k ≤ q) (hy : x0.take k = y0) (hi : nthL l i = some o := by rfl) (hop : o.op = .convert src dst r0.r.opd := by rfl) (hd : o.dst = some d := by rfl) (hA : Fs.filter (aff [] i (some d)) = [] := by rfl) (hV : V d = TyC.eq (.string (Sb y0)) := by rfl) (hg : Gd l n dt V i o.guard := by first | exact trivial | exact ⟨rfl, _, ⟨rfl, rfl⟩, rfl⟩) : OpStep P l dt Q n a m D CB Fs V w0 c0 i := by
  intro b f w c x o' hJ hout hF hE ho K
  obtain rfl : o = o' := Option.some.inj (hi.symm.trans ho)
  obtain ⟨v0, ev0, sv0⟩ := r0.ev hJ hout hF hE K
  have hrun := by_string (P := P) (cp' := cp') hs he hds (O K) hm hk
  subst hy
  exact .pure (v := .string (Sb (x0.take k))) d (hg.wanted hJ hF hE K) hd (by rw [hA]; trivial) hJ.gi (by simp [execOp, hop, ev0.trans (hz sv0), hrun, Result.andThen]) (by rw [hV]; rfl)
theorem sLsq (d : Nat) {o : Oper} {sz k : Nat} {t e : TypeId} {L : List TyC} (r0 : XA n l dt m D i) (hlen : L.length = k) (ht : P.underlying t = some (.slice e)) (hz : ∀ {b : BB} {f : FF} {w : World} {c : Colr} {v : Value}, Kx dt w0 c0 CB Fs i b f w c → r0.r.T V w c v → (seqC sz L).sat (r0.r.W v) w c) (hi : nthL l i = some o := by rfl) (hop : o.op = .call { callee := .builtin .len, args := #[r0.r.opd], argTypes := #[t] } := by rfl) (hd : o.dst = some d := by rfl) (hA : Fs.filter (aff [] i (some d)) = [] := by rfl) (hV : V d = TyC.eq (.int .i64 (k : Int)) := by rfl) (hg : Gd l n dt V i o.guard := by first | exact trivial | exact ⟨rfl, _, ⟨rfl, rfl⟩, rfl⟩) : OpStep P l dt Q n a m D CB Fs V w0 c0 i := by
  intro b f w c x o' hJ hout hF hE ho K
  obtain rfl : o = o' := Option.some.inj (hi.symm.trans ho)
  obtain ⟨v0, ev0, sv0⟩ := r0.ev hJ hout hF hE K
  subst hlen
  exact .pure d (hg.wanted hJ hF hE K) hd (by rw [hA]; trivial) hJ.gi (seq_len hop ht ev0 (hz K sv0)) (by rw [hV]; rfl)
end
/-- A cell. -/
def TyC.sc (τ : TyC) : TyC := ⟨fun v w c => ∃ x, v = .agg #[x] ∧ τ.sat x w c, fun ⟨x, h1, h2⟩ g e => ⟨x, h1, τ.stab h2 g e⟩⟩
theorem ref_load_s {P : Program} {w : World} {c : Colr} {v : Value} {ty : TypeId} {τ : TyC} (hu : P.underlying ty = some .string) (h : (refC 1 (TyC.sc τ)).sat v w c) : ∃ ad u, v = .pointer (some ad) ∧ (loadVar ty ad).run P w = .ok u w ∧ τ.sat u w c := by
  obtain ⟨ad, cs, rfl, h2, h3, ⟨x, h4, h5⟩, h6⟩ := h
  injection h4 with h4
  subst h4
  have hc := h6 0 x rfl
  have e : ad.add 0 = ad := by simp [Addr.add]
  rw [e] at hc
  refine ⟨ad, x, rfl, ?_, h5⟩
  simp [loadVar, isAgg, run_underlying hu, hc, Result.andThen, go_sem]
theorem run_add_sb {P : Program} {w : World} (t : TypeId) (a b : List UInt8) (h : a.length + b.length ≤ 1000000) : (binOp .add t (.string (Sb a)) (.string (Sb b))).run P w = .ok (.string (Sb (a ++ b))) w := by
  have e : (Sb a ++ Sb b) = Sb (a ++ b) := by apply ByteArray.ext; simp
  have h1 : (Sb a).size = a.length := by simp [ByteArray.size]
  have h2 : (Sb b).size = b.length := by simp [ByteArray.size]
  have h3 : ¬ 9223372036854775807 < (Sb a).size + (Sb b).size := by omega
  simp [binOp, go_sem, e]
  omega
end Go.Col
