/- The reference's disk as an object of a colour; operations as plain values; coloured contracts. -/
import Derived.Test.YtdflpcbkkpgnlaaB0
import Derived.Test.YtdflpcbkkpgnlaaRdKZ
import Derived.Test.YtdflpcbkkpgnlaaDkmZ
import Derived.Test.YtdflpcbkkpgnlaaIntPZ
namespace Go.Proofs.Ytdflpcbkkpgnlaa
set_option linter.unusedVariables false
open Go.RowKit Go.Mem Go.Dk Go.Col

/-- An operation, by value. -/
def opC (o : Dk.Op) : TyC := ⟨fun v w c => ∃ vb vk, v = .agg #[.int .i64 o.kind, .int .i64 o.file, .int .i64 o.n, vb, vk] ∧ (byC o.b).sat vb w c ∧ (isC o.keep).sat vk w c, fun {S v w c w' c'} ⟨vb, vk, h1, h2, h3⟩ g e => ⟨vb, vk, h1, (byC o.b).stab h2 g e, (isC o.keep).stab h3 g e⟩⟩
/-- A row of operations. -/
def opsC (os : List Dk.Op) : TyC := seqC 5 (os.map opC)
def refOp (o : Dk.Op) : TyC := refC 5 (opC o)
/-- The reference's disk, of a colour. -/
def mkO (n : Nat) (s : S) : TyO := ⟨[n], fun v w c => ∃ g b f V, v = .pointer (some ⟨g, 0, none⟩) ∧ RI w g b f V s ∧ ∀ k, ownR g b f V k → c k = n, fun {S v w c w' c'} ⟨g, b, f, V, h1, h2, h3⟩ gi e hn => by
  have hS : S.contains n = false := by simpa using hn
  exact ⟨g, b, f, V, h1, h2.chg e.chg (fun k hk ht => by rw [h3 k hk, hS] at ht; cases ht), fun k hk => (e.col k (h2.lt hk)).trans (h3 k hk)⟩⟩
theorem flat_at {css : List (List Value)} (h : ∀ cs ∈ css, cs.length = 5) : ∀ {k : Nat} {cs : List Value}, css[k]? = some cs → ∀ j u, cs[j]? = some u → css.flatten[k * 5 + j]? = some u := by
  induction css with
  | nil => intro k cs hk; simp at hk
  | cons c r ih =>
    intro k cs hk j u hu
    have hc5 := h c (by simp)
    rw [List.flatten_cons]
    cases k with
    | zero =>
      have e : c = cs := by simpa using hk
      subst e
      have hj := (List.getElem?_eq_some_iff.1 hu).1
      rw [Nat.zero_mul, Nat.zero_add, List.getElem?_append_left hj]
      exact hu
    | succ k =>
      rw [List.getElem?_append_right (by omega), show (k + 1) * 5 + j - c.length = k * 5 + j by omega]
      exact ih (fun cs hcs => h cs (by simp [hcs])) (by simpa using hk) j u hu
theorem OpC.opC {w : World} {T : Nat → Prop} {cs : List Value} {o : Dk.Op} {c : Colr} (h : OpC w T cs o) (hT : ∀ k, T k → k < w.heap.size ∧ c k = 0) : (opC o).sat (.agg cs.toArray) w c := by
  obtain ⟨A, ca, K, ck, rfl, h2, h3, h4, h5⟩ := h
  exact ⟨_, _, rfl, ⟨A, ca, rfl, h2, h3, fun ad e => by subst e; exact hT _ (h5 _ (.inl rfl))⟩, ⟨K, ck, rfl, h4, fun ad e => by subst e; exact hT _ (h5 _ (.inr rfl))⟩⟩
theorem OpsV.opsC {w : World} {lo : Nat} {v : Value} {os : List Dk.Op} {c : Colr} (h : OpsV w lo v os) (hc : ∀ k, lo ≤ k → c k = 0) : (opsC os).sat v w c := by
  obtain ⟨css, h1, h2, h3⟩ := h
  have hl5 : ∀ cs ∈ css, cs.length = 5 := fun cs hcs => by
    obtain ⟨j, hj⟩ := List.mem_iff_getElem?.1 hcs
    have hlt : j < os.length := by have := (List.getElem?_eq_some_iff.1 hj).1; omega
    obtain ⟨cs2, q1, q2⟩ := h3 j _ (List.getElem?_eq_getElem hlt)
    rw [hj] at q1
    injection q1 with q1
    rw [q1]
    exact q2.len
  rcases h1.2 with ⟨rfl, h0⟩ | ⟨g, cap, cur, rfl, hb, hg, hnc, hcm, hcs, htake⟩
  · have e : os = [] := List.eq_nil_of_length_eq_zero h0
    subst e
    exact ⟨none, 0, rfl, Nat.le_refl _, fun k τ hk => by simp at hk⟩
  · refine ⟨some ⟨g, 0, none⟩, cap, by rw [List.length_map], by rw [List.length_map]; exact hnc, fun k τ hk => ⟨_, rfl, ?_⟩⟩
    rw [List.getElem?_map] at hk
    cases ho : os[k]? with
    | none => rw [ho] at hk; cases hk
    | some o =>
      rw [ho] at hk
      injection hk with hk
      subst hk
      obtain ⟨cs, q1, q2⟩ := h3 k o ho
      refine ⟨_, cs.toArray, rfl, fun _ => ?_, by simpa using q2.len, q2.opC (fun k hk => ⟨hk.2.1, hc k hk.1⟩), fun j u hu => ?_⟩
      · rw [block_add]; exact hc g hb
      · rw [add_add', Addr.add_lit, Nat.zero_add]
        have h9 : css.flatten[k * 5 + j]? = some u := flat_at hl5 q1 j u (by simpa using hu)
        refine Blk.cell (cs := cur) hg _ ?_
        rw [← htake] at h9
        rw [List.getElem?_take] at h9
        split at h9
        · simpa using h9
        · cases h9
section
variable {w : World} {c : Colr} {v u : Value} {n m : Nat} {s : S} {o : Dk.Op}
theorem ops_len {os : List Dk.Op} {k : Nat} (h : (opsC os).sat v w c) (e : os.length = k) : ∃ A cp, v = .slice A k cp := by
  subst e
  obtain ⟨A, cp, rfl, _⟩ := h
  exact ⟨A, cp, by rw [List.length_map]⟩
def op0 : Dk.Op := ⟨0, 0, 0, [], []⟩
theorem ops_index {os : List Dk.Op} {i : Nat} (h : (opsC os).sat v w c) (h1 : i < os.length) : ∃ p, (Instr.indexAt 44 v (.int .i64 (i : Int))).run Try.prog w = .ok p w ∧ (refOp (os.getD i op0)).sat p w c :=
  seq_index (kd := .i64) Try.underlying44 (by kernel_rfl) h (map_getD h1)
theorem refOp_load (h : (refOp o).sat v w c) : ∃ ad u, v = .pointer (some ad) ∧ (loadVar 48 ad).run Try.prog w = .ok u w ∧ (opC o).sat u w c := ref_load aggOp h
theorem mk_wf (h : (mkO n s).sat v w c) : WF s := by
  obtain ⟨g, b, f, V, rfl, h, _⟩ := h
  exact h.wf
theorem mk_ptr (h : (mkO n s).sat v w c) : ∃ g, v = .pointer (some ⟨g, 0, none⟩) := by
  obtain ⟨g, b, f, V, rfl, _⟩ := h
  exact ⟨g, rfl⟩
/-- What a call that changes it leaves. -/
theorem mk_did {w' : World} {g b f : Nat} {V V' : Nat → Value} {s' : S} (hg : GI w c) (hn : ([n].contains 0 || [n].contains 1) = false) (h : RI w g b f V s) (hc : ∀ k, ownR g b f V k → c k = n) (h' : RI w' g b f V' s') (hd : DidR w w' g b f V V') :
    ∃ c', (mkO n s').sat (.pointer (some ⟨g, 0, none⟩)) w' c' ∧ Ext [n] w c w' c' := by
  refine ⟨extO c w.heap.size n (fun k => @decide (ownR g b f V' k) (Classical.propDecidable _)), ⟨g, b, f, V', rfl, h', fun k hk => ?_⟩, Ext.of_obj hg hn hd.chg (fun k hk _ => hc k hk) (fun k hk cs t x hb v hv => nb_no v)⟩
  by_cases hlt : k < w.heap.size
  · rw [extO_old hlt]
    rcases hd.own k hk with h1 | h1
    · exact hc k h1
    · omega
  · exact extO_own (by omega) (by simpa using hk)
theorem k_rnew {room : Int} (hn : ([n].contains 0 || [n].contains 1) = false) (hr : 0 ≤ room ∧ room ≤ 16777216) : CE Try.prog 21 #[.int .i64 room] w c [n] (fun u w' c' => (mkO n (Dk.new room.toNat)).sat u w' c') := by
  intro hg
  refine (rNew_any room hr w).mono ?_
  rintro e w' ⟨g, b, f, rfl, h1, h2, h3, h4, h5⟩
  have hE : Ext [n] w c w' (extO c w.heap.size n (fun k => decide (k = g ∨ k = b ∨ k = f))) := Ext.of_obj hg hn h2 (fun k hk _ => hk.elim) (fun k hk cs t x hb v hv => nb_no v)
  refine ⟨_, _, rfl, ⟨g, b, f, _, rfl, h1, fun k hk => ?_⟩, hE⟩
  rcases hk with rfl | rfl | rfl | ⟨i, hi⟩
  · exact extO_own h3 (by simp)
  · exact extO_own h4 (by simp)
  · exact extO_own h5 (by simp)
  · cases hi
theorem k_ddo (hn : ([n].contains 0 || [n].contains 1) = false) (h : (dkO n s).sat v w c) (ho : o.Ok) (hu : (opC o).sat u w c) : CE Try.prog 23 #[v, u] w c [n] (fun x w' c' => x = .int .i64 (doS s o).2 ∧ (dkO n (doS s o).1).sat v w' c') := by
  intro hg
  obtain ⟨g, m, V, rfl, h1, h2⟩ := h
  obtain ⟨_, _, rfl, ⟨A, ca, rfl, h3, _, _⟩, ⟨K, ck, rfl, h5, h6⟩⟩ := hu
  refine (dDo_any g m V s w h1 o ho A K ca ck h3 h5 (fun k hk => ?_)).mono ?_
  · cases K with
    | none => cases hk
    | some ad =>
      have e : ad.block = k := by simpa [blk] using hk
      subst e
      obtain ⟨h7, h8⟩ := h6 ad rfl
      refine ⟨fun hx => ?_, h7⟩
      have h9 := h2 _ hx
      rw [h8] at h9
      subst h9
      simp at hn
  · rintro e w' ⟨rfl, V', h7, h8⟩
    obtain ⟨c', h9, h10⟩ := dk_did hg hn h1 h2 h7 h8
    exact ⟨_, c', rfl, ⟨rfl, h9⟩, h10⟩
theorem k_rdo (hn : ([n].contains 0 || [n].contains 1) = false) (h : (mkO n s).sat v w c) (ho : o.Ok) (hu : (opC o).sat u w c) : CE Try.prog 24 #[v, u] w c [n] (fun x w' c' => x = .int .i64 (doS s o).2 ∧ (mkO n (doS s o).1).sat v w' c') := by
  intro hg
  obtain ⟨g, b, f, V, rfl, h1, h2⟩ := h
  obtain ⟨_, _, rfl, ⟨A, ca, rfl, h3, _, _⟩, ⟨K, ck, rfl, h5, h6⟩⟩ := hu
  refine (rDo_any g b f V s w h1 o ho A K ca ck h3 h5 (fun k hk => ?_)).mono ?_
  · cases K with
    | none => cases hk
    | some ad =>
      have e : ad.block = k := by simpa [blk] using hk
      subst e
      obtain ⟨h7, h8⟩ := h6 ad rfl
      refine ⟨fun hx => ?_, h7⟩
      have h9 := h2 _ hx
      rw [h8] at h9
      subst h9
      simp at hn
  · rintro e w' ⟨rfl, V', h7, h8⟩
    obtain ⟨c', h9, h10⟩ := mk_did hg hn h1 h2 h7 h8
    exact ⟨_, c', rfl, ⟨rfl, h9⟩, h10⟩
theorem k_dsame (h : (dkO n s).sat v w c) (h' : (mkO m s).sat u w c) : CV Try.prog 25 #[v, u] w c (TyC.eq (.bool true)) := by
  obtain ⟨g, m, V, rfl, h1, _⟩ := h
  obtain ⟨g2, b, f, V2, rfl, h2, _⟩ := h'
  refine CV.of_newc (R := fun u _ => u = .bool true) ((same_any g m g2 b f V V2 s w h1 h2).mono ?_) (fun u w' _ h => h)
  rintro e w' ⟨rfl, h6⟩
  exact ⟨_, rfl, rfl, h6⟩
theorem k_ops {l : List Int} (h : (isP l).sat v w c) (hr : ∀ z ∈ l, -9223372036854775808 ≤ z ∧ z ≤ 9223372036854775807) : CV Try.prog 22 #[v] w c (opsC (opsL l)) := by
  obtain ⟨A, cp, rfl, h3, h4, h5, h6⟩ := h
  refine CV.of_newc (R := fun u w' => OpsV w' w.heap.size u (opsL l)) ((rOps_any A l.length cp l w h3 hr (by omega)).mono ?_) (fun u w' hN h => h.opsC (fun k hk => by simp [ext0]; intro h; omega))
  rintro e w' ⟨v, rfl, h7, h8⟩
  exact ⟨_, rfl, h7, h8⟩
end
/-- The states behind operations. -/
def runS (s : S) (os : List Dk.Op) : S := os.foldl (fun s o => (doS s o).1) s
theorem runS_succ {s : S} {os : List Dk.Op} {i : Nat} (h : i < os.length) : runS s (os.take (i + 1)) = (doS (runS s (os.take i)) (os.getD i op0)).1 := by
  unfold runS
  rw [List.take_add_one, List.getElem?_eq_getElem h, List.foldl_append]
  simp [List.getD, List.getElem?_eq_getElem h]
theorem runS_all {s : S} {os : List Dk.Op} : runS s (os.take os.length) = runS s os := by rw [List.take_length]
theorem opsL_okD {l : List Int} {i : Nat} (h : i < (opsL l).length) : ((opsL l).getD i op0).Ok := by
  rw [List.getD, List.getElem?_eq_getElem h]
  exact opsL_ok (List.getElem?_eq_getElem h)
section
variable {P : Program} {l : List Oper} {dt : List (List Nat)} {Q : Exit → Act → World → Prop} {n : Nat} {a : Act} {m : Nat → Option Value} {D CB : List Nat} {Fs : List RF} {V : Nat → TyC} {w0 : World} {c0 : Colr} {i : Nat}
/-- A call that makes objects of several colours. -/
theorem sOL2 (nc : List Nat) (d : Nat) (un : List (List Nat)) {o : Oper} {fn : Nat} {tys : Array TypeId} {fd : Func} {σ : TyO} {rest : List RF} (r0 : XA n l dt m D i) (r1 : XA n l dt m D i) (L : ∀ {b : BB} {f : FF} {w : World} {c : Colr} {v0 v1 : Value}, Kx dt w0 c0 CB Fs i b f w c → r0.r.T V w c v0 → r1.r.T V w c v1 → CE P fn #[r0.r.W v0, r1.r.W v1] w c nc (fun v w' c' => σ.sat v w' c')) (hfn : P.funcs[fn]? = some fd) (hi : nthL l i = some o := by rfl) (hop : o.op = .call { callee := .value (.func fn), args := #[r0.r.opd, r1.r.opd], argTypes := tys } := by rfl) (hd : o.dst = some d := by rfl) (hA : Fs.filter (aff nc i (some d)) = .own d σ :: rest := by rfl) (hun : unO l dt i d rest un = true := by rfl) (hV : V d = TyC.any := by rfl) (hCB : nc.all (CB.contains ·) = true := by rfl) (hnb : (fd.name == "runtime.NumGoroutine" || fd.body.isNone) = false := by rfl) (hg : Gd l n dt V i o.guard := by first | exact trivial | exact ⟨rfl, _, ⟨rfl, rfl⟩, rfl⟩) : OpStep P l dt Q n a m D CB Fs V w0 c0 i := by
  intro b f w c x o' hJ hout hF hE ho K
  obtain rfl : o = o' := Option.some.inj (hi.symm.trans ho)
  obtain ⟨v0, ev0, sv0⟩ := r0.ev hJ hout hF hE K
  obtain ⟨v1, ev1, sv1⟩ := r1.ev hJ hout hF hE K
  exact .callE d nc (hg.wanted hJ hF hE K) hd hCB hJ.gi hop (vs := #[r0.r.W v0, r1.r.W v1]) (by simp [ev0, ev1]) (enter_of hfn hnb _) (L K sv0 sv1) (fun v w' c' h _ => ⟨by rw [hV]; trivial, by rw [hA]; exact ⟨own_now h, unO_all hJ K rest un hun⟩⟩)
end
theorem ops_cast {P : Program} {f : Nat} {vs : Array Value} {w : World} {c : Colr} {a b : List Dk.Op} (e : a = b) (h : CV P f vs w c (opsC a)) : CV P f vs w c (opsC b) := e ▸ h
theorem mk_cast {P : Program} {f : Nat} {vs : Array Value} {w : World} {c : Colr} {n : Nat} {v : Value} {A A' : S} {x x' : Int} (h1 : A = A') (h2 : x = x') (h : CE P f vs w c [n] (fun u w' c' => u = .int .i64 x ∧ (mkO n A).sat v w' c')) : CE P f vs w c [n] (fun u w' c' => u = .int .i64 x' ∧ (mkO n A').sat v w' c') := by
  subst h1; subst h2; exact h
theorem k_dsameE {w : World} {c : Colr} {v u : Value} {n m : Nat} {s s' : S} (h : (dkO n s).sat v w c) (h' : (mkO m s').sat u w c) (e : s = s') : CV Try.prog 25 #[v, u] w c (TyC.eq (.bool true)) := by
  subst e
  exact k_dsame h h'
end Go.Proofs.Ytdflpcbkkpgnlaa
