/- Contract of pool: Die. -/
import Derived.Test.YtbmplfhcdkeooaaPlNZ
set_option linter.unusedSimpArgs false
set_option linter.unusedVariables false
namespace Go.Pl
set_option linter.unusedVariables false
/-- The first N id tries of each task are marked. -/
def mk (N : Int → Nat) (worker : Int) (t : Tr) : Tr := if t.num < (N t.task : Int) then lose worker t else t
def markN (N : Int → Nat) (worker : Int) (s : S) : S := { s with tries := s.tries.map (mk N worker) }
theorem mk_same (N : Int → Nat) (worker : Int) (t : Tr) : (mk N worker t).task = t.task ∧ (mk N worker t).num = t.num ∧ (mk N worker t).worker = t.worker ∧ (mk N worker t).tick = t.tick := by
  unfold mk lose
  split
  · split <;> exact ⟨rfl, rfl, rfl, rfl⟩
  · exact ⟨rfl, rfl, rfl, rfl⟩
theorem triesOf_mark (N : Int → Nat) (worker : Int) (s : S) (id : Int) : triesOf (markN N worker s) id = (triesOf s id).map (mk N worker) := by
  unfold triesOf markN
  rw [List.filter_map]
  congr 1
  refine List.filter_congr (fun t ht => ?_)
  show ((mk N worker t).task == id) = (t.task == id)
  rw [(mk_same N worker t).1]
theorem WF.mark {s : S} (h : WF s) (N : Int → Nat) (worker : Int) : WF (markN N worker s) := by
  refine ⟨h.al, h.to, h.tk, h.len, h.rise, h.idr, h.bl, h.an, fun x hx => ?_, fun j hj => ?_⟩
  · obtain ⟨y, hy, rfl⟩ := List.mem_map.1 hx
    obtain ⟨e1, e2, e3, e4⟩ := mk_same N worker y
    rw [e1, e3, e4]
    exact h.tr y hy
  · rw [triesOf_mark]
    obtain ⟨h5, h6⟩ := h.num j hj
    refine ⟨by rw [List.length_map]; exact h5, fun k x hk => ?_⟩
    rw [List.getElem?_map] at hk
    cases hk2 : (triesOf s j.id)[k]? with
    | none => rw [hk2] at hk; cases hk
    | some y =>
      rw [hk2] at hk
      injection hk with hk
      subst hk
      rw [(mk_same N worker y).2.1]
      exact h6 k y hk2
theorem WF.num_at {s : S} (h : WF s) {t : Tr} (ht : t ∈ s.tries) : ∃ j ∈ s.jobs, j.id = t.task ∧ ∃ k : Nat, (triesOf s j.id)[k]? = some t ∧ t.num = (k : Int) ∧ k < j.n := by
  obtain ⟨⟨j, hj, e⟩, _⟩ := h.tr t ht
  obtain ⟨h1, h2⟩ := h.num j hj
  obtain ⟨k, hk⟩ := List.getElem?_of_mem (List.mem_filter.2 ⟨ht, by simp [e]⟩ : t ∈ triesOf s j.id)
  exact ⟨j, hj, e, k, hk, h2 k t hk, by rw [← h1]; exact (List.getElem?_eq_some_iff.1 hk).1⟩
theorem mark_zero (worker : Int) {s : S} (h : WF s) : markN (fun _ => 0) worker s = s := by
  unfold markN
  have : s.tries.map (mk (fun _ => 0) worker) = s.tries.map id := List.map_congr_left (fun t ht => by
    obtain ⟨j, hj, e, k, _, hk, _⟩ := h.num_at ht
    unfold mk
    rw [if_neg (by show ¬ t.num < ((0 : Nat) : Int); omega)]
    rfl)
  rw [this, List.map_id]
theorem mark_all {N : Int → Nat} (worker : Int) {s : S} (h : WF s) (hN : ∀ j ∈ s.jobs, j.n ≤ N j.id) : markN N worker s = { s with tries := s.tries.map (lose worker) } := by
  unfold markN
  rw [List.map_congr_left (fun t ht => by
    obtain ⟨j, hj, e, k, _, hk, hlt⟩ := h.num_at ht
    have := hN j hj
    unfold mk
    rw [← e, if_pos (by omega)])]
def upN (N : Int → Nat) (i : Int) (k : Nat) : Int → Nat := fun x => if x = i then k else N x
theorem mark_other {N : Int → Nat} {worker : Int} {s : S} {i x : Int} {k : Nat} (hx : x ≠ i) : triesOf (markN (upN N i k) worker s) x = triesOf (markN N worker s) x := by
  rw [triesOf_mark, triesOf_mark]
  refine List.map_congr_left (fun t ht => ?_)
  have e : t.task = x := by simpa using (List.mem_filter.1 ht).2
  unfold mk upN
  rw [e, if_neg hx]
theorem mark_set {N : Int → Nat} {worker : Int} {s : S} (h : WF s) {j : Job} (hj : j ∈ s.jobs) {k : Nat} (hk : N j.id = k) {t : Tr} (ht : (triesOf s j.id)[k]? = some t) :
    triesOf (markN (upN N j.id (k + 1)) worker s) j.id = (triesOf (markN N worker s) j.id).set k (lose worker t) ∧ (triesOf (markN N worker s) j.id)[k]? = some t := by
  obtain ⟨h1, h2⟩ := h.num j hj
  have hm : ∀ (r : Nat) (x : Tr), (triesOf s j.id)[r]? = some x → x.task = j.id ∧ x.num = (r : Int) := fun r x hx => ⟨by simpa using (List.mem_filter.1 (List.mem_of_getElem? hx)).2, h2 r x hx⟩
  have hself : mk N worker t = t := by
    obtain ⟨e1, e2⟩ := hm k t ht
    unfold mk
    rw [e1, hk, if_neg (by omega)]
  have hget : (triesOf (markN N worker s) j.id)[k]? = some t := by rw [triesOf_mark, List.getElem?_map, ht, ← hself]; simp [hself]
  refine ⟨List.ext_getElem? (fun r => ?_), hget⟩
  rw [triesOf_mark, triesOf_mark, List.getElem?_map, List.getElem?_set]
  by_cases e : k = r
  · subst e
    have hlt : k < (triesOf s j.id).length := (List.getElem?_eq_some_iff.1 ht).1
    rw [if_pos rfl, if_pos (by rw [List.length_map]; exact hlt), ht]
    obtain ⟨e1, e2⟩ := hm k t ht
    show some (mk _ _ _) = _
    unfold mk upN
    rw [e1, if_pos rfl, if_pos (by omega)]
  · rw [if_neg e, List.getElem?_map]
    cases hx : (triesOf s j.id)[r]? with
    | none => rfl
    | some x =>
      obtain ⟨e1, e2⟩ := hm r x hx
      show some (mk _ _ _) = some (mk _ _ _)
      unfold mk upN
      rw [e1, if_pos rfl, hk, e2]
      by_cases hlt : r < k
      · rw [if_pos (by omega), if_pos (by omega)]
      · rw [if_neg (by omega), if_neg (by omega)]
theorem lose_ne {worker : Int} {t : Tr} (h : t.worker ≠ worker) : lose worker t = t := if_neg h
theorem lose_eq {worker : Int} {t : Tr} (h : t.worker = worker) : lose worker t = { t with over := true } := if_pos h
theorem set_self {l : List Tr} {k : Nat} {t : Tr} (h : l[k]? = some t) : l.set k t = l := by
  obtain ⟨hk, rfl⟩ := List.getElem?_eq_some_iff.1 h
  exact List.set_getElem_self hk
end Go.Pl
namespace Go.Proofs.Ytbmplfhcdkeooaa
set_option linter.unusedVariables false
open Go.RowKit Go.Mem Go.Pl

theorem trsV_over {l : List Tr} {k : Nat} {t : Tr} (h : l[k]? = some t) : trsV (l.set k { t with over := true }) = (trsV l).set (k * 3 + 2) (.bool true) := by
  induction l generalizing k with
  | nil => simp at h
  | cons x r ih =>
    cases k with
    | zero =>
      have e : x = t := by simpa using h
      subst e
      rfl
    | succ k =>
      have := ih (k := k) (by simpa using h)
      rw [show (k + 1) * 3 + 2 = k * 3 + 2 + 3 by omega]
      simp only [List.set_cons_succ, trsV, this]
section
variable {w w' : World} {g m : Nat} {dv : Value} {V : Int → Loc} {T : Nat → Prop} {s s' : S}
/-- The tries of one task are changed in their place. -/
theorem PI.row {j : Job} (h : PI w g m dv V T s) (hj : j ∈ s.jobs) (hjobs : s'.jobs = s.jobs) (hal : s'.alive = s.alive) (hto : s'.timeout = s.timeout) (htk : s'.tick = s.tick) (htr : ∀ i, i ≠ j.id → triesOf s' i = triesOf s i) (hwf : WF s')
    (hc : Chg (fun x => (V j.id).tv.ownBlock = some x) w w') (hr : w'.ownsRow 0 100 3 (V j.id).tv j.n (trsV (triesOf s' j.id))) : PI w' g m dv V T s' := by
  obtain ⟨a1, a2, a3⟩ := h.apart
  obtain ⟨n1, n2, n3⟩ := h.ne_map
  have hown : ∀ x, ownP g m dv V s' x → ownP g m dv V s x := fun x hx => by unfold ownP at hx ⊢; rw [hjobs] at hx; exact hx
  have hold : ∀ v x, ByT w T v x → ByT w' T v x := fun v x hb => hb.chg hc (fun k hk e => (h.sep k hk).2 (.inr (.inr (.inr ⟨j, hj, .inr e⟩))))
  have hent : entP V s' = entP V s := by unfold entP; rw [hjobs]
  have hpc : pCells s' dv m = pCells s dv m := by unfold pCells; rw [hto, htk]
  refine ⟨by rw [hpc]; exact h.blk.chg hc (fun e => (a1 j hj).2.1 e), by rw [hent]; exact h.map.chg hc (fun e => (n3 j hj).2 e), by rw [hal]; exact h.dead.chg hc (fun x hx e => (a1 j hj).2.2.2 x e hx), fun i hi => ?_, fun i hi => ?_, fun i hi => ?_, fun i hi => ?_, by rw [hjobs]; exact h.apT, by rw [hjobs]; exact h.apR, hwf, fun k hk => ⟨Nat.lt_of_lt_of_le (h.sep k hk).1 hc.size, fun ho => (h.sep k hk).2 (hown k ho)⟩⟩
  all_goals rw [hjobs] at hi
  · exact (h.task i hi).chg hc (fun e => a3 j hj i hi e)
  · exact hold _ _ (h.body i hi)
  · by_cases e : i.id = j.id
    · rw [rise_uniq h.wf.rise hi hj e]; exact hr
    · rw [htr _ e]
      exact ownN_chg (h.tries i hi) hc (fun x hx e2 => e (h.apR i hi j hj x hx e2))
  · exact hold _ _ (h.ans i hi)
end
theorem upN_same (N : Int → Nat) (i : Int) (k : Nat) : upN N i k i = k := if_pos rfl
theorem upN_up (N : Int → Nat) (i : Int) (k r : Nat) : upN (upN N i k) i r = upN N i r := by
  funext x
  unfold upN
  split <;> rfl
theorem upN_id (N : Int → Nat) (i : Int) : upN N i (N i) = N := by
  funext x
  unfold upN
  split
  · rename_i h; rw [h]
  · rfl
theorem ownP_jobs {g m : Nat} {dv : Value} {V : Int → Loc} {s s' : S} (h : s'.jobs = s.jobs) {x : Nat} (hx : ownP g m dv V s' x) : ownP g m dv V s x := by unfold ownP at hx ⊢; rw [h] at hx; exact hx
/-- What of the pool Die changes. -/
def dieC (g : Nat) (dv : Value) (V : Int → Loc) (s : S) (x : Nat) : Prop := x = g ∨ blkV dv = some x ∨ ∃ j ∈ s.jobs, (V j.id).tv.ownBlock = some x
set_option maxHeartbeats 2000000 in
set_option maxRecDepth 100000 in
theorem plDie_ok (g m : Nat) (dv : Value) (V : Int → Loc) (T : Nat → Prop) (s : S) (w : World) (h : PI w g m dv V T s) (worker tick : Int) (hck : check s worker tick = 0) (hal : s.alive.getD worker.toNat false = true) :
    Calls Try.prog 24 #[.pointer (some ⟨g, 0, none⟩), .int .i64 worker, .int .i64 tick] w fun e w' => e = .returned (.int .i64 0) ∧ PI w' g m dv V T { s with tick := tick, alive := s.alive.set worker.toNat false, tries := s.tries.map (lose worker) } ∧ Chg (dieC g dv V s) w w' := by
  obtain ⟨gd, c, rfl, hdc, hcm⟩ := h.dv
  have hc0 := h.blk.cell 0 (u := .slice (some ⟨gd, 0, none⟩) s.alive.length c) rfl
  have hc2 := h.blk.cell 2 (u := .int .i64 s.tick) rfl
  have hc3 := h.blk.cell 3 (u := .map (some m)) rfl
  have hf2 := h.blk.frozen 2
  have hgl := h.blk.lt
  have HH := Lib.hid h
  obtain ⟨k1, k2, k3⟩ := check_zero hck
  have hnb : ¬ (worker < 0 ∨ (s.alive.length : Int) ≤ worker) := by omega
  obtain ⟨k, rfl, hk, hka⟩ := alive_at hnb
  rw [hal] at hka
  obtain ⟨d0, d1⟩ := dead_at h hka
  have hgdl : gd < w.heap.size := World.block_lt_of_cell? _ _ d0
  have HCK := Lib.hid (show Calls Try.prog 47 #[.pointer (some ⟨g, 0, none⟩), .int .i64 (k : Int), .int .i64 tick] w fun e w' => e = .returned (.int .i64 0) ∧ w = w' from hck ▸ plChecked_any g m _ V T s w h (k : Int) tick)
  obtain ⟨a1, a2, a3⟩ := h.apart
  have hgd : g ≠ gd := fun e => a2 (by rw [e]; rfl)
  have hwf1 : WF { s with tick := tick, alive := s.alive.set k false } := by
    refine ⟨by show 1 ≤ (s.alive.set _ _).length ∧ _; rw [List.length_set]; exact h.wf.al, h.wf.to, k2, h.wf.len, h.wf.rise, h.wf.idr, h.wf.bl, h.wf.an, fun x hx => ?_, h.wf.num⟩
    have := h.wf.tr x hx
    show _ ∧ _ ∧ (0 ≤ x.worker ∧ x.worker < ((s.alive.set _ _).length : Int))
    rw [List.length_set]
    exact this
  have hpi1 := h.flagsT (s' := { s with tick := tick, alive := s.alive.set k false }) (w' := (w.setCell ⟨g, 2, none⟩ (.int .i64 tick)).setCell ⟨gd, k, none⟩ (.bool true)) rfl rfl hwf1
    (((Chg.refl _ w).setCell (p := ⟨g, 2, none⟩) (fun _ => .inl rfl) _).setCell (p := ⟨gd, k, none⟩) (fun _ => .inr rfl) _) ((h.blk.set_ 2 (.int .i64 tick)).far (fun e => hgd e) _)
    (by
      have hcg : Chg (fun x => x = g) w (w.setCell ⟨g, 2, none⟩ (.int .i64 tick)) := ((Chg.refl (fun x => g = x) w).setCell (p := ⟨g, 2, none⟩) (fun _ => rfl) _).mono (fun x _ e => Eq.symm e)
      have h1 := h.flagsT (s' := { s with tick := tick }) (w' := w.setCell ⟨g, 2, none⟩ (.int .i64 tick)) rfl rfl (h.wf.tick k2.1 k2.2) ((Chg.refl _ w).setCell (p := ⟨g, 2, none⟩) (fun _ => .inl rfl) _) (h.blk.set_ 2 (.int .i64 tick)) (h.dead.chg hcg (fun x hx e => a2 (hx.trans (by rw [show x = g from e]))))
      exact dead_set h1.1 hk false)
  have HP1 := Lib.hid hpi1.1
  have HC1 := Lib.hid (show Chg (dieC g (.slice (some ⟨gd, 0, none⟩) s.alive.length c) V s) w ((w.setCell ⟨g, 2, none⟩ (.int .i64 tick)).setCell ⟨gd, k, none⟩ (.bool true)) from ((Chg.refl _ w).setCell (p := ⟨g, 2, none⟩) (fun _ => .inl rfl) _).setCell (p := ⟨gd, k, none⟩) (fun _ => .inr (.inl rfl)) _)
  obtain ⟨N0, hN0⟩ : ∃ N0, s.alive.length = N0 := ⟨_, rfl⟩
  obtain ⟨s1, hs1⟩ : ∃ s1, ({ s with tick := tick, alive := s.alive.set k false } : S) = s1 := ⟨_, rfl⟩
  have HS1 := Lib.hid hs1
  have hj1 : s1.jobs = s.jobs := by rw [← hs1]
  have HJ1 := Lib.hid hj1
  rw [hs1] at HP1
  have HINV := Lib.hid HP1.out.inv
  rw [hN0] at hc0 hk HP1 HC1 HH ⊢
  rw [Int.toNat_natCast]
  rw [Int.toNat_natCast] at hal
  have hk' : (k : Int) < (N0 : Int) := by omega
  clear h hpi1 hwf1 a1 a2 a3 hs1 hj1 hck hal hka hnb k1
  go_enter Try.func24, Try.ntmps24
  go_wp2_with fail
  refine HCK.out.mono ?_
  rintro e w' ⟨rfl, rfl⟩
  go_wp2_with (at_range; refine wpList_rangeI _ rfl _ rfl keyIntP Try.underlying87 rfl HP1.out.map ?_; intro w0 hr0 hn0 hs0)
  have HR0 := Lib.hid hr0
  have hch0 : Chg (dieC g (.slice (some ⟨gd, 0, none⟩) N0 c) V s) w w0 := HC1.out.trans hn0 (fun _ _ h => h.elim)
  have hp0 := HP1.out.new hn0
  have HCH0 := Lib.hid hch0
  have HP0 := Lib.hid hp0
  have hsz : ((w.setCell ⟨g, 2, none⟩ (.int .i64 tick)).setCell ⟨gd, k, none⟩ (.bool true)).heap.size = w.heap.size := by simp
  rw [hsz] at HR0 ⊢
  have HSZ := Lib.hid hsz
  clear hr0 hn0 hs0 hch0 hp0 hsz
  go_frame
  go_loopw [] (fun wr => ∃ left N, Go.Mem.RI wr Try.prog 3 m w.heap.size (entP V s1) left ∧ (∀ j ∈ s1.jobs, (left j.id = false → j.n ≤ N j.id) ∧ (left j.id = true → N j.id = 0)) ∧ PI wr g m (.slice (some ⟨gd, 0, none⟩) N0 c) V T (markN N (k : Int) s1) ∧ Chg (dieC g (.slice (some ⟨gd, 0, none⟩) N0 c) V s) w wr) (fun wr => wr.rangeLeft m w.heap.size)
  case atStart =>
    refine ⟨_, fun _ => 0, HR0.out, fun j hj => ⟨fun hl => ?_, fun _ => rfl⟩, by rw [mark_zero _ HP1.out.wf]; exact HP0.out, HCH0.out⟩
    simp [lk_entP_some HP1.out.wf hj] at hl
  case round =>
    obtain ⟨left, N, hri, hall, hpi, hnw⟩ := hrel
    have HRI := Lib.hid hri
    have HALL := Lib.hid hall
    have HPI := Lib.hid hpi
    have HNW := Lib.hid hnw
    clear hri hall hpi hnw
    go_wp2_with (at_next; refine wpList_nextI wr rfl _ rfl keyIntP rfl HRI.out (fun tb : Nat => Value.pointer (some ⟨tb, 0, none⟩)) HINV.out ?_ ?_)
    · intro hdone
      go_wp2
      go_ret
      have he := mark_all (N := N) (k : Int) HP1.out.wf (fun j hj => (HALL.out j hj).1 (hdone j.id))
      have := HPI.out
      rw [he, ← HS1.out] at this
      exact ⟨rfl, this, HNW.out⟩
    · intro i tb w1 hm hi hl hr1 hc2 hsz hlt hen
      obtain ⟨j, hj, e⟩ := mem_entP.1 hm
      injection e with e1 e2
      injection e2 with e2
      injection e2 with e2
      injection e2 with e2
      subst e1
      subst e2
      have hlow : ∀ x, ownP g m (.slice (some ⟨gd, 0, none⟩) N0 c) V (markN N (k : Int) s1) x → x < w.heap.size := fun x hx => HH.out.lt (ownP_jobs (show (markN N (k : Int) s1).jobs = s.jobs from HJ1.out) hx)
      have hp1 := HPI.out.chg hc2 (fun x hx e => by have := hlow x hx; omega) (fun x hx e => by have := (HH.out.sep x hx).1; omega)
      have hN0' := (HALL.out j hj).2 hl
      have hp2 : PI w1 g m (.slice (some ⟨gd, 0, none⟩) N0 c) V T (markN (upN N j.id 0) (k : Int) s1) := by
        have e0 : upN N j.id 0 = N := by have := upN_id N j.id; rwa [hN0'] at this
        rw [e0]
        exact hp1
      have hjs : j ∈ s.jobs := HJ1.out ▸ hj
      obtain ⟨A, c2, hv, hnc, hcm2, _⟩ := ownN_shape (hp1.tries j hj)
      have hn := (HP1.out.wf.num j hj).1
      unfold maxLen at hcm2
      have HP2 := Lib.hid hp2
      have HX := Lib.hid (And.intro hr1 (And.intro hlt (And.intro hj hl)))
      have HC2 := Lib.hid hc2
      have HNL := Lib.hid hn
      have HJS := Lib.hid hjs
      obtain ⟨tb, htb⟩ : ∃ tb, (V j.id).tb = tb := ⟨_, rfl⟩
      have HTB := Lib.hid htb
      obtain ⟨n, hnn⟩ : ∃ n, j.n = n := ⟨_, rfl⟩
      have HNN := Lib.hid hnn
      have hq1 := (hp1.task j hj).cell 1 (u := (V j.id).tv) rfl
      have htl := (hp1.task j hj).lt
      rw [hv] at hq1
      have HV := Lib.hid hv
      rw [htb] at hq1 htl hen
      rw [hnn] at hq1 hnc
      rw [hnn] at HNL
      clear hm hi hl hr1 hc2 hlt hp1 hp2 hv hn hj hjs hlow hN0' htb hnn
      go_wp2
      go_loopw [49, 10] (fun v _ wr2 => ∃ r : Nat, r ≤ n ∧ v = .int .i64 (r : Int) ∧ PI wr2 g m (.slice (some ⟨gd, 0, none⟩) N0 c) V T (markN (upN N j.id r) (k : Int) s1) ∧ Chg (dieC g (.slice (some ⟨gd, 0, none⟩) N0 c) V s) w1 wr2) (fun v _ _ => n - (intOf v).toNat)
      case atStart => exact ⟨0, Nat.zero_le _, rfl, HP2.out, Chg.refl _ _⟩
      case round =>
        obtain ⟨r, hr, rfl, hpr, hch⟩ := hrel
        have HPR := Lib.hid hpr
        have HCR := Lib.hid hch
        by_cases hlt : r < n
        · obtain ⟨x, hx⟩ : ∃ x, (triesOf s1 j.id)[r]? = some x := ⟨_, List.getElem?_eq_getElem (by rw [HNL.out]; exact hlt)⟩
          obtain ⟨m1, m2⟩ := mark_set HP1.out.wf HX.out.2.2.1 (N := upN N j.id r) (worker := (k : Int)) (upN_same _ _ _) hx
          rw [upN_up] at m1
          obtain ⟨t0, t1, t2⟩ := trsV_at m2
          have hown := hpr.tries j HX.out.2.2.1
          rw [HV.out] at hown
          have hq2 := (hpr.task j HX.out.2.2.1).cell 1 (u := (V j.id).tv) rfl
          have htl2 := (hpr.task j HX.out.2.2.1).lt
          rw [HV.out, HTB.out] at hq2
          rw [HTB.out] at htl2
          rw [HNN.out] at hown hq2
          obtain ⟨ga, rfl, c0, _⟩ := ownN_cell hown t0
          obtain ⟨_, e2, cc2, f2⟩ := ownN_cell hown t2
          injection e2 with e2; injection e2 with e2; subst e2
          have hgl2 : ga < wr.heap.size := by have := World.block_lt_of_cell? _ _ c0; exact this
          have HM := Lib.hid (And.intro m1 m2)
          have HXX := Lib.hid hx
          have HOWN := Lib.hid hown
          clear t0 t1 t2 hx m1 m2 hpr hch hown
          by_cases hw : x.worker = (k : Int)
          · rw [hw] at c0
            go_wp2
            have hob : (V j.id).tv.ownBlock = some ga := by rw [HV.out]; rfl
            have hcg : Chg (fun x => (V j.id).tv.ownBlock = some x) wr (wr.setCell ⟨ga, r * 3 + 2, none⟩ (.bool true)) := (Chg.refl _ wr).setCell (p := ⟨ga, r * 3 + 2, none⟩) (fun _ => hob) _
            have hset : triesOf (markN (upN N j.id (r + 1)) (k : Int) s1) j.id = (triesOf (markN (upN N j.id r) (k : Int) s1) j.id).set r { x with over := true } := by rw [HM.out.1, lose_eq hw]
            have hpi2 := HPR.out.row (s' := markN (upN N j.id (r + 1)) (k : Int) s1) (j := j) HX.out.2.2.1 rfl rfl rfl rfl (fun i hi => by rw [mark_other hi, mark_other hi]) (HP1.out.wf.mark _ _) hcg (by
              rw [hset, trsV_over HM.out.2, HV.out, HNN.out]
              exact ownN_set HOWN.out (by omega) _)
            exact ⟨⟨r + 1, by omega, by go_num, hpi2, HCR.out.trans hcg (fun y _ hy => .inr (.inr ⟨j, HJS.out, hy⟩))⟩, by simp [intOf]; omega⟩
          · go_wp2
            have hset : markN (upN N j.id (r + 1)) (k : Int) s1 = markN (upN N j.id r) (k : Int) s1 := by
              unfold markN
              congr 1
              refine List.map_congr_left (fun y hy => ?_)
              obtain ⟨j2, hj2, e, q, hq, hnum, _⟩ := HP1.out.wf.num_at hy
              unfold mk upN
              by_cases e2 : y.task = j.id
              · rw [if_pos e2, if_pos e2]
                by_cases e3 : q = r
                · subst e3
                  have hyx : y = x := by
                    have h5 : j2 = j := rise_uniq HP1.out.wf.rise hj2 HX.out.2.2.1 (e.trans e2)
                    rw [h5] at hq
                    rw [HXX.out] at hq
                    injection hq with hq
                    exact hq.symm
                  rw [if_pos (by omega), if_neg (by omega), hyx, lose_ne hw]
                · by_cases e4 : q < r
                  · rw [if_pos (by omega), if_pos (by omega)]
                  · rw [if_neg (by omega), if_neg (by omega)]
              · rw [if_neg e2, if_neg e2]
            exact ⟨⟨r + 1, by omega, by go_num, by rw [hset]; exact HPR.out, HCR.out⟩, by simp [intOf]; omega⟩
        · obtain rfl : r = n := by omega
          go_wp2
          obtain ⟨n1, n2, n3⟩ := HH.out.ne_map
          have hm' : ¬ dieC g (.slice (some ⟨gd, 0, none⟩) N0 c) V s m := fun e => by
            rcases e with e | e | ⟨i, hi, e⟩
            · exact n1 e.symm
            · exact n2 e
            · exact (n3 i hi).2 e
          have ht' : ¬ dieC g (.slice (some ⟨gd, 0, none⟩) N0 c) V s w.heap.size := fun e => by
            have : ownP g m (.slice (some ⟨gd, 0, none⟩) N0 c) V s w.heap.size := by
              rcases e with e | e | ⟨i, hi, e⟩
              · exact .inl e
              · exact .inr (.inr (.inl e))
              · exact .inr (.inr (.inr ⟨i, hi, .inr e⟩))
            have := HH.out.lt this
            omega
          refine ⟨⟨_, upN N j.id r, HX.out.1.chg HCR.out hm' ht', fun i hi => ?_, HPR.out, (HNW.out.trans HC2.out (fun x hx e => by omega)).trans HCR.out (fun _ _ h => h)⟩, ?_⟩
          · by_cases e : i.id = j.id
            · rw [e, upN_same, rise_uniq HP1.out.wf.rise hi HX.out.2.2.1 e]
              exact ⟨fun _ => by rw [HNN.out]; exact Nat.le_refl _, fun h => by simp at h⟩
            · have := HALL.out i hi
              unfold upN
              rw [if_neg e]
              exact ⟨fun h => this.1 (by simpa [e] using h), fun h => this.2 (by simpa [e] using h)⟩
          · rw [RI.left_chg HX.out.1 HCR.out hm' ht']
            exact HX.out.2.1
theorem PI.same2 {w : World} {g m : Nat} {dv : Value} {V : Int → Loc} {T : Nat → Prop} {s : S} (h : PI w g m dv V T s) {w' : World} (hn : New w w') : PI w' g m dv V T s ∧ Chg (dieC g dv V s) w w' := ⟨h.new hn, hn.mono (fun _ _ h => h.elim)⟩
set_option maxHeartbeats 1000000 in
set_option maxRecDepth 100000 in
theorem plDie_any (g m : Nat) (dv : Value) (V : Int → Loc) (T : Nat → Prop) (s : S) (w : World) (h : PI w g m dv V T s) (worker tick : Int) :
    Calls Try.prog 24 #[.pointer (some ⟨g, 0, none⟩), .int .i64 worker, .int .i64 tick] w fun e w' => e = .returned (.int .i64 (Pl.die s worker tick).2) ∧ PI w' g m dv V T (Pl.die s worker tick).1 ∧ Chg (dieC g dv V s) w w' := by
  by_cases hck : check s worker tick = 0
  · cases hal : s.alive.getD worker.toNat false with
    | true =>
      rw [die_ok hck hal]
      exact plDie_ok g m dv V T s w h worker tick hck hal
    | false =>
      rw [die_dead hck hal]
      have HH := Lib.hid h
      obtain ⟨k1, k2, k3⟩ := check_zero hck
      have hnb : ¬ (worker < 0 ∨ (s.alive.length : Int) ≤ worker) := by omega
      obtain ⟨k, rfl, hk, hka⟩ := alive_at hnb
      obtain ⟨gd, c, rfl, hdc, hcm⟩ := h.dv
      have hc0 := h.blk.cell 0 (u := .slice (some ⟨gd, 0, none⟩) s.alive.length c) rfl
      have hgl := h.blk.lt
      rw [hal] at hka
      obtain ⟨d0, d1⟩ := dead_at h hka
      have hgdl : gd < w.heap.size := World.block_lt_of_cell? _ _ d0
      have HCK := Lib.hid (show Calls Try.prog 47 #[.pointer (some ⟨g, 0, none⟩), .int .i64 (k : Int), .int .i64 tick] w fun e w' => e = .returned (.int .i64 0) ∧ w = w' from hck ▸ plChecked_any g m _ V T s w h (k : Int) tick)
      obtain ⟨N0, hN0⟩ : ∃ N0, s.alive.length = N0 := ⟨_, rfl⟩
      rw [hN0] at hc0 hk HH ⊢
      have hk' : (k : Int) < (N0 : Int) := by omega
      clear h hck hal hka hnb k1
      go_enter Try.func24, Try.ntmps24
      go_wp2_with fail
      refine HCK.out.mono ?_
      rintro e w' ⟨rfl, rfl⟩
      go_wp2_with fail
      go_ret
      exact ⟨rfl, HH.out, Chg.refl _ _⟩
  · rw [die_bad hck]
    have HH := Lib.hid h
    have HCK := Lib.hid (plChecked_any g m _ V T s w h worker tick)
    obtain ⟨e0, he0⟩ : ∃ e0, check s worker tick = e0 := ⟨_, rfl⟩
    rw [he0] at HCK hck ⊢
    clear h he0
    go_enter Try.func24, Try.ntmps24
    go_wp2_with fail
    refine HCK.out.mono ?_
    rintro e w' ⟨rfl, rfl⟩
    go_wp2_with fail
    go_ret
    exact ⟨rfl, HH.out, Chg.refl _ _⟩
section
variable {w w1 : World} {g : Nat} {s : S} {O : Nat → Prop}
theorem pnDie (h : PN w w1 O g s) (worker tick : Int) :
    Calls Try.prog 24 #[.pointer (some ⟨g, 0, none⟩), .int .i64 worker, .int .i64 tick] w1 fun e w' => e = .returned (.int .i64 (Pl.die s worker tick).2) ∧ PN w w' O g (Pl.die s worker tick).1 ∧ PStep w1 w' O O := by
  obtain ⟨h1, h0, m, dv, V, T, rfl, h2, h4⟩ := h
  refine (plDie_any g m dv V T s w1 h2 worker tick).mono ?_
  rintro e w' ⟨rfl, h5, h6⟩
  have hj : (Pl.die s worker tick).1.jobs = s.jobs := by
    by_cases hc : check s worker tick = 0
    · cases ha : s.alive.getD worker.toNat false with
      | true => rw [die_ok hc ha]
      | false => rw [die_dead hc ha]
    · rw [die_bad hc]
  have ho : ownP g m dv V (Pl.die s worker tick).1 = ownP g m dv V s := by funext x; unfold ownP; rw [hj]
  have hc : Chg (ownP g m dv V s) w1 w' := h6.mono (fun x _ e => by
    rcases e with e | e | ⟨i, hi, e⟩
    · exact .inl e
    · exact .inr (.inr (.inl e))
    · exact .inr (.inr (.inr ⟨i, hi, .inr e⟩)))
  exact ⟨rfl, ⟨h1.trans hc (fun k hk e => by have := h0 k e; omega), h0, m, dv, V, T, ho.symm, h5, h4⟩, hc, fun k hk => .inl hk⟩
theorem pnRevive (h : PN w w1 O g s) (worker : Int) :
    Calls Try.prog 26 #[.pointer (some ⟨g, 0, none⟩), .int .i64 worker] w1 fun e w' => e = .returned (.int .i64 (revive s worker).2) ∧ ∃ O', PN w w' O' g (revive s worker).1 ∧ PStep w1 w' O O' := by
  obtain ⟨h1, h0, m, dv, V, T, rfl, h2, h4⟩ := h
  refine (plRevive_any g m dv V T s w1 h2 worker).mono ?_
  rintro e w' ⟨rfl, h5, h6⟩
  exact ⟨rfl, _, PN.did h1 h0 h4 h5 h6⟩
end
end Go.Proofs.Ytbmplfhcdkeooaa
