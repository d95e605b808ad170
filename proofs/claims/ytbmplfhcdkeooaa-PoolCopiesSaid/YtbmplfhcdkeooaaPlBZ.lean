/- Contracts of pool: copied, checked, given, works. -/
import Derived.Test.YtbmplfhcdkeooaaPlAZ
import Derived.Deep.RegionWith
set_option linter.unusedSimpArgs false
set_option linter.unusedVariables false
namespace Go.Proofs.Ytbmplfhcdkeooaa
set_option linter.unusedVariables false
open Go.RowKit Go.Mem Go.Pl

set_option maxHeartbeats 1000000 in
set_option maxRecDepth 100000 in
theorem plCopied_any (A : Option Addr) (n c : Nat) (l : List UInt8) (w : World) (hr : Rd w A n (bs l)) (hn : n ≤ 1000000000) :
    Calls Try.prog 45 #[.slice A n c] w fun e w' => ∃ A' c', e = .returned (.slice A' n c') ∧ ByT w' (fun k => w.heap.size ≤ k) (.slice A' n c') l ∧ New w w' := by
  have hl : l.length = n := by simpa using hr.len
  have HL := Lib.hid hl
  have HR := Lib.hid hr
  clear hl hr
  go_enter Try.func45, Try.ntmps45
  go_wp2_with (at_builtin; refine wpList_app elemBytes rfl _ _ rfl rfl (World.ownsRow_made w _ 0 (Nat.le_refl _) (Nat.zero_le _) rfl) rfl (HR.out.new ((Chg.refl _ w).alloc _)) (bs_one _) (by simp only [maxLen]; omega) (by omega) (by simp) ?_; intro A' c' w2 hown2 hg2 hat2; have HO2 := Lib.hid (And.intro hown2 hg2); clear hown2 hg2 hat2)
  go_ret
  have hown := HO2.out.1
  rw [Nat.zero_add] at hown
  have hch : New w w2 := ((Chg.refl _ w).alloc _).grown HO2.out.2 (fun k hk hlt => by simp [blk] at hk; omega)
  refine ⟨A', c', by simp, ⟨A', c', by rw [HL.out], ?_, ?_, ?_, fun k hk => ?_⟩, hch⟩
  · rw [HL.out]; exact Rd.of_own (by simpa using hown)
  · rw [HL.out]; exact (own_cap hown).1
  · exact (own_cap hown).2
  · have := own_blk_le hown hk
    exact ⟨this.2, this.1⟩

theorem PI.dv {w : World} {g m : Nat} {dv : Value} {V : Int → Loc} {T : Nat → Prop} {s : S} (h : PI w g m dv V T s) : ∃ gd c, dv = .slice (some ⟨gd, 0, none⟩) s.alive.length c ∧ s.alive.length ≤ c ∧ c ≤ maxLen := by
  obtain ⟨gd, c, hv⟩ := rowv_full h.dead (by intro e; have h1 := congrArg List.length e; rw [List.length_map, List.length_nil] at h1; have := h.wf.al; omega)
  obtain ⟨A, c', hv', h1, h2⟩ := h.dead.shape
  rw [List.length_map] at hv hv' h1
  rw [hv] at hv'
  injection hv' with _ _ hc
  subst hc
  exact ⟨gd, c, hv, h1, h2⟩
set_option maxHeartbeats 1000000 in
set_option maxRecDepth 100000 in
theorem plChecked_any (g m : Nat) (dv : Value) (V : Int → Loc) (T : Nat → Prop) (s : S) (w : World) (h : PI w g m dv V T s) (worker tick : Int) :
    Calls Try.prog 47 #[.pointer (some ⟨g, 0, none⟩), .int .i64 worker, .int .i64 tick] w fun e w' => e = .returned (.int .i64 (check s worker tick)) ∧ w = w' := by
  obtain ⟨gd, c, rfl, hdc, _⟩ := h.dv
  have hc0 := h.blk.cell 0 (u := .slice (some ⟨gd, 0, none⟩) s.alive.length c) rfl
  have hc2 := h.blk.cell 2 (u := .int .i64 s.tick) rfl
  have hgl := h.blk.lt
  obtain ⟨N, hN⟩ : ∃ N, s.alive.length = N := ⟨_, rfl⟩
  obtain ⟨k, hk⟩ : ∃ k, s.tick = k := ⟨_, rfl⟩
  unfold check
  rw [hN] at hc0 hdc ⊢
  rw [hk] at hc2 ⊢
  clear h hN hk
  by_cases h1 : worker < 0
  · rw [if_pos (Or.inl h1)]
    go_enter Try.func47, Try.ntmps47
    go_wp2
    go_ret
    exact ⟨rfl, rfl⟩
  have h1' : 0 ≤ worker := by omega
  by_cases h2 : (N : Int) ≤ worker
  · rw [if_pos (Or.inr (Or.inl h2))]
    go_enter Try.func47, Try.ntmps47
    go_wp2
    go_ret
    exact ⟨rfl, rfl⟩
  have h2' : worker < (N : Int) := by omega
  by_cases h3 : tick < 0
  · rw [if_pos (Or.inr (Or.inr (Or.inl h3)))]
    go_enter Try.func47, Try.ntmps47
    go_wp2
    go_ret
    exact ⟨rfl, rfl⟩
  have h3' : 0 ≤ tick := by omega
  by_cases h4 : 1099511627776 < tick
  · rw [if_pos (Or.inr (Or.inr (Or.inr h4)))]
    go_enter Try.func47, Try.ntmps47
    go_wp2
    go_ret
    exact ⟨rfl, rfl⟩
  have h4' : tick ≤ 1099511627776 := by omega
  rw [if_neg (by omega)]
  by_cases h5 : tick < k
  · rw [if_pos h5]
    go_enter Try.func47, Try.ntmps47
    go_wp2
    go_ret
    exact ⟨rfl, rfl⟩
  · rw [if_neg h5]
    have h5' : k ≤ tick := by omega
    go_enter Try.func47, Try.ntmps47
    go_wp2
    go_ret
    exact ⟨rfl, rfl⟩

/-! ### whether a task is given out -/
def trAgg (x : Tr) : Value := .agg #[.int .i64 x.worker, .int .i64 x.tick, .bool x.over]
set_option maxHeartbeats 1000000 in
set_option maxRecDepth 100000 in
theorem indexTry_any (gf : Nat) (cap : Array Value) (A : Option Addr) (n c : Nat) (l : List Tr) (q : Tr → Bool) (w : World) (hn : n = l.length) (hown : w.ownsRow 0 100 3 (.slice A n c) n (trsV l))
    (hf : ∀ W x, New w W → x ∈ l → Calls Try.prog gf (#[trAgg x] ++ cap) W fun e w' => e = .returned (.bool (q x)) ∧ New W w') (heg : ∀ args w, (callFunc gf args).run Try.prog w = .ok (.enter gf args) w) :
    Calls Try.prog 83 #[.slice A n c, .func (.func gf) #[] cap] w fun e w' => ∃ r : Int, e = .returned (.int .i64 r) ∧ decide (0 ≤ r) = l.any q ∧ New w w' := by
  have HOW := Lib.hid hown
  have HF := Lib.hid hf
  have HN := Lib.hid hn
  obtain ⟨A0, c0, hA0, hcap, hcm, _⟩ := ownN_shape hown
  injection hA0 with hA0 _ hc0
  subst hA0 hc0
  unfold maxLen at hcm
  clear hown hf hn
  go_enter Try.func83, Try.ntmps83
  go_wp2
  go_loopw [8] (fun v wr => ∃ k : Nat, k ≤ n ∧ v = .int .i64 (k : Int) ∧ (l.take k).any q = false ∧ New w wr) (fun v _ => n - (intOf v).toNat)
  case atStart => exact ⟨0, Nat.zero_le _, rfl, by simp, Chg.refl _ _⟩
  case round =>
    obtain ⟨k, hk, rfl, hany, hnew⟩ := hrel
    have HA := Lib.hid hany
    have HNW := Lib.hid hnew
    by_cases hlt : k < n
    · obtain ⟨x, hx⟩ : ∃ x, l[k]? = some x := ⟨_, List.getElem?_eq_getElem (by rw [← HN.out]; exact hlt)⟩
      obtain ⟨t0, t1, t2⟩ := trsV_at hx
      have hown := ownN_chg HOW.out hnew (fun _ _ h => h)
      obtain ⟨ga, rfl, c0, _⟩ := ownN_cell hown t0
      obtain ⟨_, e1, c1, _⟩ := ownN_cell hown t1
      obtain ⟨_, e2, c2, _⟩ := ownN_cell hown t2
      injection e1 with e1; injection e1 with e1; subst e1
      injection e2 with e2; injection e2 with e2; subst e2
      have HX := Lib.hid hx
      have HC := Lib.hid (HF.out wr x hnew (List.mem_of_getElem? hx))
      unfold trAgg at HC
      clear t0 t1 t2 hown hx hany hnew
      cases hq : q x with
      | true =>
        rw [hq] at HC
        have HQ := Lib.hid hq
        clear hq
        go_wp2
        refine HC.out.mono ?_
        rintro e w2 ⟨rfl, hn2⟩
        go_wp2
        go_ret
        have h : l.any q = true := List.any_eq_true.2 ⟨x, List.mem_of_getElem? HX.out, HQ.out⟩
        exact ⟨_, rfl, by rw [h]; simp, HNW.out.trans hn2 (fun _ _ h => h)⟩
      | false =>
        rw [hq] at HC
        have HQ := Lib.hid hq
        clear hq
        go_wp2
        refine HC.out.mono ?_
        rintro e w2 ⟨rfl, hn2⟩
        have HN2 := Lib.hid hn2
        clear hn2
        go_wp2
        go_roundw
        case rel => exact ⟨k + 1, by omega, by go_num, by rw [List.take_add_one, HX.out, List.any_append, HA.out]; simp [HQ.out], HNW.out.trans HN2.out (fun _ _ h => h)⟩
        case measure => simp [intOf]; omega
    · obtain rfl : k = n := by omega
      go_wp2
      go_ret
      have h : l.any q = false := by have := HA.out; rwa [HN.out, List.take_length] at this
      exact ⟨_, rfl, by rw [h]; rfl, HNW.out⟩

set_option maxHeartbeats 1000000 in
set_option maxRecDepth 100000 in
theorem containsTry_any (gf : Nat) (cap : Array Value) (A : Option Addr) (n c : Nat) (l : List Tr) (q : Tr → Bool) (w : World) (hn : n = l.length) (hown : w.ownsRow 0 100 3 (.slice A n c) n (trsV l))
    (hf : ∀ W x, New w W → x ∈ l → Calls Try.prog gf (#[trAgg x] ++ cap) W fun e w' => e = .returned (.bool (q x)) ∧ New W w') (heg : ∀ args w, (callFunc gf args).run Try.prog w = .ok (.enter gf args) w) :
    Calls Try.prog 73 #[.slice A n c, .func (.func gf) #[] cap] w fun e w' => e = .returned (.bool (l.any q)) ∧ New w w' := by
  have HI := Lib.hid (indexTry_any gf cap A n c l q w hn hown hf heg)
  clear hn hown hf heg
  go_enter Try.func73, Try.ntmps73
  go_wp2_with (go_at_call 83; refine HI.out.mono ?_; rintro e w2 ⟨r, rfl, hr, hn2⟩; have HR := Lib.hid hr; clear hr)
  go_ret
  exact ⟨by rw [← HR.out]; rfl, hn2⟩

/-- What running asks. -/
structure RunOk (s : S) : Prop where
  to : 1 ≤ s.timeout ∧ s.timeout ≤ 1099511627776
set_option maxHeartbeats 1000000 in
set_option maxRecDepth 100000 in
theorem given1_any (g m : Nat) (dv : Value) (s : S) (j : Job) (L : Loc) (x : Tr) (tick : Int) (bp bt bk : Nat) (w : World) (hb : Blk w g 89 (pCells s dv m)) (ht : Blk w L.tb 94 (tCells j L)) (hto : 1 ≤ s.timeout ∧ s.timeout ≤ 1099511627776) (hx : 0 ≤ x.tick ∧ x.tick ≤ 1099511627776)
    (h1 : Blk w bp 22 #[.pointer (some ⟨g, 0, none⟩)]) (h2 : Blk w bt 90 #[.pointer (some ⟨L.tb, 0, none⟩)]) (h3 : Blk w bk 3 #[.int .i64 tick]) :
    Calls Try.prog 74 #[trAgg x, .pointer (some ⟨bp, 0, none⟩), .pointer (some ⟨bt, 0, none⟩), .pointer (some ⟨bk, 0, none⟩)] w fun e w' => e = .returned (.bool (runJ s j x tick)) ∧ New w w' := by
  have q1 := h1.cell 0 (u := .pointer (some ⟨g, 0, none⟩)) rfl
  have q2 := h2.cell 0 (u := .pointer (some ⟨L.tb, 0, none⟩)) rfl
  have q3 := h3.cell 0 (u := .int .i64 tick) rfl
  have l1 := h1.lt
  have l2 := h2.lt
  have l3 := h3.lt
  have HR := Lib.hid (fun W (hW : New w W) => plRunning_any g m dv s j L x tick W (hb.chg hW (fun h => h)) (ht.chg hW (fun h => h)) hto hx)
  unfold trAgg
  clear hb ht hto hx h1 h2 h3
  go_enter Try.func74, Try.ntmps74
  go_wp2_with (go_at_call 72; refine (HR.out _ ((Chg.refl _ w).alloc _)).mono ?_; rintro e w2 ⟨rfl, hn2⟩)
  go_ret
  exact ⟨rfl, ((Chg.refl _ w).alloc _).trans hn2 (fun _ _ h => h)⟩
set_option maxHeartbeats 1000000 in
set_option maxRecDepth 100000 in
theorem plGiven_any (g m : Nat) (dv : Value) (V : Int → Loc) (T : Nat → Prop) (s : S) (w : World) (h : PI w g m dv V T s) (j : Job) (hj : j ∈ s.jobs) (tick : Int) :
    Calls Try.prog 49 #[.pointer (some ⟨g, 0, none⟩), .pointer (some ⟨(V j.id).tb, 0, none⟩), .int .i64 tick] w fun e w' => e = .returned (.bool ((triesOf s j.id).any (fun x => runJ s j x tick))) ∧ New w w' := by
  have hmf : ∀ (fn : Fn) (first cap : Array Value) (w : World), (Instr.makeFunc fn first cap).run Try.prog w = .ok (.func fn first cap) w := fun _ _ _ _ => rfl
  obtain ⟨A, c, hv, hnc, hcm, _⟩ := ownN_shape (h.tries j hj)
  have hc1 := (h.task j hj).cell 1 (u := (V j.id).tv) rfl
  have htl := (h.task j hj).lt
  rw [hv] at hc1
  obtain ⟨w0, hw0⟩ : ∃ w0, ((w.alloc (.cells #[.pointer (some ⟨g, 0, none⟩)] 22)).alloc (.cells #[.pointer (some ⟨(V j.id).tb, 0, none⟩)] 90)).alloc (.cells #[.int .i64 tick] 3) = w0 := ⟨_, rfl⟩
  have hN0 : New w w0 := by rw [← hw0]; exact (((Chg.refl _ w).alloc _).alloc _).alloc _
  have hp0 := h.new hN0
  have hb1 : Blk w0 w.heap.size 22 #[.pointer (some ⟨g, 0, none⟩)] := by rw [← hw0]; exact ((Blk.new _ _ _).alloc _).alloc _
  have hb2 : Blk w0 (w.heap.size + 1) 90 #[.pointer (some ⟨(V j.id).tb, 0, none⟩)] := by
    rw [← hw0]
    have := Blk.new (w.alloc (.cells #[.pointer (some ⟨g, 0, none⟩)] 22)) 90 #[.pointer (some ⟨(V j.id).tb, 0, none⟩)]
    rw [World.size_alloc] at this
    exact this.alloc _
  have hb3 : Blk w0 (w.heap.size + 1 + 1) 3 #[.int .i64 tick] := by
    rw [← hw0]
    have := Blk.new ((w.alloc (.cells #[.pointer (some ⟨g, 0, none⟩)] 22)).alloc (.cells #[.pointer (some ⟨(V j.id).tb, 0, none⟩)] 90)) 3 #[.int .i64 tick]
    rw [World.size_alloc, World.size_alloc] at this
    exact this
  have hok : ∀ x ∈ triesOf s j.id, 0 ≤ x.tick ∧ x.tick ≤ 1099511627776 := fun x hx => (h.wf.tr x (List.mem_filter.1 hx).1).2.1
  have hown := hp0.tries j hj
  rw [hv] at hown
  have HC := Lib.hid (containsTry_any 74 #[.pointer (some ⟨w.heap.size, 0, none⟩), .pointer (some ⟨w.heap.size + 1, 0, none⟩), .pointer (some ⟨w.heap.size + 1 + 1, 0, none⟩)] A j.n c (triesOf s j.id) (fun x => runJ s j x tick) w0 ((h.wf.num j hj).1.symm) hown
    (fun W x hW hx => given1_any g m dv s j (V j.id) x tick _ _ _ W (hp0.blk.chg hW (fun h => h)) ((hp0.task j hj).chg hW (fun h => h)) h.wf.to (hok x hx) (hb1.chg hW (fun h => h)) (hb2.chg hW (fun h => h)) (hb3.chg hW (fun h => h))) (fun _ _ => rfl))
  have HW := Lib.hid hw0
  have HN := Lib.hid hN0
  clear h hv hw0 hN0 hp0 hb1 hb2 hb3 hok hown
  generalize (V j.id).tb = tb at *
  have htl2 : tb < w.heap.size + 1 := by omega
  have htl3 : tb < w.heap.size + 1 + 1 := by omega
  go_enter Try.func49, Try.ntmps49
  go_wp2_with (go_at_call 73; rw [HW.out]; refine HC.out.mono ?_; rintro e w2 ⟨rfl, hn2⟩)
  go_ret
  exact ⟨rfl, HN.out.trans hn2 (fun _ _ h => h)⟩

end Go.Proofs.Ytbmplfhcdkeooaa
