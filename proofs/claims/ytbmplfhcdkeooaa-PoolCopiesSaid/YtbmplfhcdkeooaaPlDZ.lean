/- Contract of pool: Add. -/
import Derived.Test.YtbmplfhcdkeooaaPlCZ
import Derived.Deep.RegionHeld3
set_option linter.unusedSimpArgs false
set_option linter.unusedVariables false
namespace Go.Proofs.Ytbmplfhcdkeooaa
set_option linter.unusedVariables false
open Go.RowKit Go.Mem Go.Pl

/-- What a call that changes a pool leaves: its blocks are old ones or new ones. -/
structure DidP (w w' : World) (g m : Nat) (dv : Value) (V V' : Int → Loc) (s s' : S) : Prop where
  chg : Chg (ownP g m dv V s) w w'
  own : ∀ k, ownP g m dv V' s' k → ownP g m dv V s k ∨ w.heap.size ≤ k
/-- The blocks of bytes behind such a call. -/
def TP (w w' : World) (g m : Nat) (dv : Value) (V' : Int → Loc) (T : Nat → Prop) (s' : S) (k : Nat) : Prop := T k ∨ (w.heap.size ≤ k ∧ k < w'.heap.size ∧ ¬ ownP g m dv V' s' k)
theorem DidP.of_new {w w' : World} {g m : Nat} {dv : Value} {V : Int → Loc} {s : S} (h : New w w') : DidP w w' g m dv V V s s := ⟨h.mono (fun _ _ hf => hf.elim), fun k hk => .inl hk⟩
theorem DidP.sep {w w' : World} {g m : Nat} {dv : Value} {V V' : Int → Loc} {T : Nat → Prop} {s s' : S} (h : PI w g m dv V T s) (hd : DidP w w' g m dv V V' s s') : ∀ k, TP w w' g m dv V' T s' k → k < w'.heap.size ∧ ¬ ownP g m dv V' s' k := fun k hk => by
  rcases hk with hk | ⟨h1, h2, h3⟩
  · obtain ⟨h1, h2⟩ := h.sep k hk
    refine ⟨Nat.lt_of_lt_of_le h1 hd.chg.size, fun ho => ?_⟩
    rcases hd.own k ho with h3 | h3
    · exact h2 h3
    · omega
  · exact ⟨h2, h3⟩
theorem PI.same {w w' : World} {g m : Nat} {dv : Value} {V : Int → Loc} {T : Nat → Prop} {s : S} (h : PI w g m dv V T s) (hn : New w w') : PI w' g m dv V (TP w w' g m dv V T s) s ∧ DidP w w' g m dv V V s s :=
  ⟨(h.new hn).up (fun k _ hk => .inl hk) (DidP.sep h (DidP.of_new hn)), DidP.of_new hn⟩
theorem triesOf_none {s : S} (h : WF s) {id : Int} (hn : ∀ x ∈ s.jobs, x.id ≠ id) : triesOf s id = [] := by
  unfold triesOf
  rw [List.filter_eq_nil_iff]
  intro t ht
  obtain ⟨⟨j, hj, e⟩, _⟩ := h.tr t ht
  have := hn j hj
  simp; omega
/-- A task is added. -/
theorem PI.added {w w2 w5 : World} {g m : Nat} {dv : Value} {V : Int → Loc} {T T2 : Nat → Prop} {s : S} (h : PI w g m dv V T s) {id : Int} {l : List UInt8} {bv : Value} (hi : id ≤ 9223372036854775807) (e : add s id l = ({ s with jobs := insJ ⟨id, l, 0, none⟩ s.jobs }, 0)) (hfn : findJ s.jobs id = none) (hN2 : New w w2) (hby : ByT w2 T2 bv l) (hT2 : ∀ k, T2 k → w.heap.size ≤ k)
    (hm5 : MI w5 Try.prog 3 m (pt (entP V s) id (.pointer (some ⟨w2.heap.size, 0, none⟩)))) (hc5 : Chg (fun k => k = m) (w2.alloc (.cells #[bv, .slice none 0 0, .int .i64 0, .int .i64 0, .int .i64 0, .slice none 0 0, .bool false] 94)) w5) :
    ∃ V', PI w5 g m dv V' (TP w w5 g m dv V' T { s with jobs := insJ ⟨id, l, 0, none⟩ s.jobs }) { s with jobs := insJ ⟨id, l, 0, none⟩ s.jobs } ∧ DidP w w5 g m dv V V' s { s with jobs := insJ ⟨id, l, 0, none⟩ s.jobs } := by
  obtain ⟨V', hV'⟩ : ∃ V', updL V id ⟨w2.heap.size, bv, .slice none 0 0, .slice none 0 0⟩ = V' := ⟨_, rfl⟩
  obtain ⟨s', hs'⟩ : ∃ s' : S, { s with jobs := insJ ⟨id, l, 0, none⟩ s.jobs } = s' := ⟨_, rfl⟩
  have hne := findJ_none hfn
  have hv1 : V' id = ⟨w2.heap.size, bv, .slice none 0 0, .slice none 0 0⟩ := by rw [← hV']; exact updL_same _ _ _
  have hv2 : ∀ j ∈ s.jobs, V' j.id = V j.id := fun j hj => by rw [← hV']; exact updL_other _ _ (hne j hj)
  have hjob : ∀ j, j ∈ s'.jobs ↔ j = ⟨id, l, 0, none⟩ ∨ j ∈ s.jobs := fun j => by rw [← hs']; exact mem_insJ
  have htr : ∀ i, triesOf s' i = triesOf s i := fun i => by rw [← hs']; rfl
  have hwf : WF s' := by have := h.wf.add id l hi; rw [e, hs'] at this; exact this
  have hsz : w.heap.size ≤ w2.heap.size := hN2.size
  have hch : Chg (fun k => k = m) w w5 := (((hN2.mono (fun _ _ hf => hf.elim) : Chg (fun k => k = m) w w2)).alloc _).trans hc5 (fun _ _ h => h)
  obtain ⟨n1, n2, n3⟩ := h.ne_map
  have hent : entP V' s' = pt (entP V s) id (.pointer (some ⟨w2.heap.size, 0, none⟩)) := by
    refine (entP_rise V' hwf).ext ((entP_rise V h.wf).pt _ _) (fun x => ?_)
    rw [mem_entP, mem_pt, mem_entP]
    constructor
    · rintro ⟨j, hj, rfl⟩
      rcases (hjob j).1 hj with rfl | hj
      · left; show (id, Value.pointer (some ⟨(V' id).tb, 0, none⟩)) = _; rw [hv1]
      · right; exact ⟨⟨j, hj, by rw [hv2 j hj]⟩, hne j hj⟩
    · rintro (rfl | ⟨⟨j, hj, rfl⟩, _⟩)
      · exact ⟨_, (hjob _).2 (.inl rfl), by show _ = (id, Value.pointer (some ⟨(V' id).tb, 0, none⟩)); rw [hv1]⟩
      · exact ⟨j, (hjob _).2 (.inr hj), by rw [hv2 j hj]⟩
  have hown : ∀ k, ownP g m dv V' s' k → ownP g m dv V s k ∨ k = w2.heap.size := fun k hk => by
    rcases hk with hk | hk | hk | ⟨j, hj, hk⟩
    · exact .inl (.inl hk)
    · exact .inl (.inr (.inl hk))
    · exact .inl (.inr (.inr (.inl hk)))
    · rcases (hjob j).1 hj with rfl | hj
      · have hk : k = (V' id).tb ∨ (V' id).tv.ownBlock = some k := hk
        rw [hv1] at hk
        rcases hk with hk | hk
        · exact .inr hk
        · cases hk
      · rw [hv2 j hj] at hk; exact .inl (.inr (.inr (.inr ⟨j, hj, hk⟩)))
  have hdid : DidP w w5 g m dv V V' s s' := ⟨hch.mono (fun k _ e => .inr (.inl e)), fun k hk => (hown k hk).imp (fun h => h) (fun e => by omega)⟩
  have hml := h.map.lt
  have hnew : Blk w5 w2.heap.size 94 #[bv, .slice none 0 0, .int .i64 0, .int .i64 0, .int .i64 0, .slice none 0 0, .bool false] := (Blk.new w2 _ _).chg hc5 (fun e => by omega)
  have hold : ∀ v x, ByT w T v x → ByT w5 (TP w w5 g m dv V' T s') v x := fun v x hb => (hb.chg hch (fun k hk e => (h.sep k hk).2 (.inr (.inl e)))).up (fun k _ hk => .inl hk)
  have hnewb : ByT w5 (TP w w5 g m dv V' T s') bv l := by
    obtain ⟨A, c, rfl, q1, q2, q3, q4⟩ := hby
    have hlt : ∀ k, Go.Mem.blk A = some k → k < w2.heap.size ∧ w.heap.size ≤ k := fun k hk => ⟨(q4 k hk).1, hT2 k (q4 k hk).2⟩
    refine ⟨A, c, rfl, ?_, q2, q3, fun k hk => ?_⟩
    · exact (q1.new ((Chg.refl _ w2).alloc _)).chg hc5 (fun k hk _ e => by have := hlt k hk; omega)
    · obtain ⟨h1, h2⟩ := hlt k hk
      have h3 := hch.size
      have h4 := hnew.lt
      refine ⟨by omega, .inr ⟨h2, by omega, fun ho => ?_⟩⟩
      rcases hown k ho with h5 | h5
      · have := h.lt h5; omega
      · omega
  subst hs'
  refine ⟨V', ⟨h.blk.chg hch n1, by rw [hent]; exact hm5, h.dead.chg hch (fun k hk e => n2 (by subst e; exact hk)), fun j hj => ?_, fun j hj => ?_, fun j hj => ?_, fun j hj => ?_, fun i hi j hj e => ?_, fun i hi j hj k h1 h2 => ?_, hwf, DidP.sep h hdid⟩, hdid⟩
  · rcases (hjob j).1 hj with rfl | hj
    · show Blk w5 (V' id).tb _ (tCells _ (V' id)); rw [hv1]; exact hnew
    · rw [hv2 j hj]; exact (h.task j hj).chg hch (n3 j hj).1
  · rcases (hjob j).1 hj with rfl | hj
    · show ByT w5 _ (V' id).bv l; rw [hv1]; exact hnewb
    · rw [hv2 j hj]; exact hold _ _ (h.body j hj)
  · rcases (hjob j).1 hj with rfl | hj
    · show w5.ownsRow 0 100 3 (V' id).tv 0 (trsV (triesOf _ id)); rw [hv1, htr, triesOf_none h.wf hne]; exact World.ownsRow_nil _ _ _ _
    · rw [hv2 j hj, htr]; exact ownN_chg (h.tries j hj) hch (fun k hk e => (n3 j hj).2 (by subst e; exact hk))
  · rcases (hjob j).1 hj with rfl | hj
    · show ByT w5 _ (V' id).av []; rw [hv1]; exact ByT.nil _ _
    · rw [hv2 j hj]; exact hold _ _ (h.ans j hj)
  · rcases (hjob i).1 hi with rfl | hi <;> rcases (hjob j).1 hj with rfl | hj
    · rfl
    · have e : (V' id).tb = (V' j.id).tb := e
      rw [hv1, hv2 j hj] at e
      have := (h.task j hj).lt; dsimp only at e; omega
    · have e : (V' i.id).tb = (V' id).tb := e
      rw [hv1, hv2 i hi] at e
      have := (h.task i hi).lt; dsimp only at e; omega
    · rw [hv2 i hi, hv2 j hj] at e; exact h.apT i hi j hj e
  · rcases (hjob i).1 hi with rfl | hi
    · have h1 : (V' id).tv.ownBlock = some k := h1
      rw [hv1] at h1; cases h1
    · rcases (hjob j).1 hj with rfl | hj
      · have h2 : (V' id).tv.ownBlock = some k := h2
        rw [hv1] at h2; cases h2
      · rw [hv2 i hi] at h1; rw [hv2 j hj] at h2; exact h.apR i hi j hj k h1 h2

theorem has_findJ {s : S} (h : WF s) (id : Int) : (findJ s.jobs id).isSome = true ↔ ∃ j ∈ s.jobs, j.id = id := by
  constructor
  · intro hs
    obtain ⟨k, hk⟩ := Option.isSome_iff_exists.1 hs
    obtain ⟨j, h1, h2⟩ := findJ_some hk
    exact ⟨j, List.mem_of_getElem? h1, h2⟩
  · rintro ⟨j, hj, rfl⟩
    obtain ⟨k, hk⟩ := List.getElem?_of_mem hj
    rw [findJ_at h.rise hk]
    rfl
theorem zeroTask (w : World) : (zeroValue 90).run Try.prog w = .ok (.pointer none) w := by kernel_rfl
set_option maxHeartbeats 2000000 in
set_option maxRecDepth 100000 in
theorem plAdd_any (g m : Nat) (dv : Value) (V : Int → Loc) (T : Nat → Prop) (s : S) (w : World) (h : PI w g m dv V T s) (id : Int) (hid : Go.Mem.I64 id) (A : Option Addr) (n c : Nat) (l : List UInt8) (hr : Rd w A n (bs l)) (hn : n ≤ 1000000000) :
    Calls Try.prog 12 #[.pointer (some ⟨g, 0, none⟩), .agg #[.int .i64 id, .slice A n c]] w fun e w' => e = .returned (.int .i64 (add s id l).2) ∧
      ∃ V', PI w' g m dv V' (TP w w' g m dv V' T (add s id l).1) (add s id l).1 ∧ DidP w w' g m dv V V' s (add s id l).1 := by
  have hl : l.length = n := by simpa using hr.len
  have hc3 := h.blk.cell 3 (u := .map (some m)) rfl
  have hgl := h.blk.lt
  have hml := h.map.lt
  have hjl := h.wf.len
  have hel := entP_len V s
  have HH := Lib.hid h
  have HL := Lib.hid hl
  unfold Go.Mem.I64 at hid
  by_cases h1 : id < 0
  · have e : add s id l = (s, 1) := by unfold add; rw [if_pos h1]
    rw [e]
    clear h hr hl hel e
    go_enter Try.func12, Try.ntmps12
    go_wp2
    go_ret
    obtain ⟨q1, q2⟩ := HH.out.same ((Chg.refl _ w).alloc _)
    exact ⟨rfl, V, q1, q2⟩
  have h1' : 0 ≤ id := by omega
  by_cases h2 : 65536 < n
  · have e : add s id l = (s, 4) := by unfold add; rw [if_neg h1, if_pos (.inl (by omega))]
    have h2' : (65536 : Int) < (n : Int) := by omega
    rw [e]
    clear h hr hl hel e
    go_enter Try.func12, Try.ntmps12
    go_wp2
    go_ret
    obtain ⟨q1, q2⟩ := HH.out.same ((Chg.refl _ w).alloc _)
    exact ⟨rfl, V, q1, q2⟩
  have h2' : (n : Int) ≤ 65536 := by omega
  obtain ⟨J, hJ⟩ : ∃ J, s.jobs.length = J := ⟨_, rfl⟩
  rw [hJ] at hel hjl
  have HJ := Lib.hid hJ
  have HE := Lib.hid hel
  have hlen : ∀ ty, (Builtin.len_ #[87] ty #[.map (some m)]).run Try.prog (w.alloc (.cells #[.int .i64 id, .slice A n c] 30)) = .ok (.int .i64 (J : Int)) (w.alloc (.cells #[.int .i64 id, .slice A n c] 30)) := fun ty => by
    have := (h.map.chg ((Chg.refl (fun _ => False) w).alloc (.cells #[.int .i64 id, .slice A n c] 30)) (fun h => h)).len Try.underlying87 ty
    rwa [hel] at this
  by_cases h3 : 1024 ≤ J
  · have e : add s id l = (s, 4) := by unfold add; rw [if_neg h1, if_pos (.inr (by omega))]
    have h3' : (1024 : Int) ≤ (J : Int) := by omega
    rw [e]
    clear h hr hl hel e hJ
    go_enter Try.func12, Try.ntmps12
    go_wp2
    go_ret
    obtain ⟨q1, q2⟩ := HH.out.same ((Chg.refl _ w).alloc _)
    exact ⟨rfl, V, q1, q2⟩
  have h3' : (J : Int) < 1024 := by omega
  have hlk := fun (W : World) (hW : New w W) => (h.map.chg hW (fun h => h)).look keyIntP Try.underlying87 (zeroTask W) hid true
  obtain ⟨hb, hhb⟩ : ∃ b, (lk (entP V s) id).isSome = b := ⟨_, rfl⟩
  obtain ⟨vb, hvb⟩ : ∃ b, (lk (entP V s) id).getD (.pointer none) = b := ⟨_, rfl⟩
  rw [hhb, hvb] at hlk
  simp only [if_true] at hlk
  have hlk2 := hlk _ ((Chg.refl (fun _ => False) w).alloc (.cells #[.int .i64 id, .slice A n c] 30)).drew
  cases hb with
  | true =>
    have e : add s id l = (s, 8) := by
      have : (findJ s.jobs id).isSome = true := (has_findJ h.wf id).2 (by
        obtain ⟨v, hv⟩ := Option.isSome_iff_exists.1 hhb
        obtain ⟨j, hj, e⟩ := mem_entP.1 ((lk_some (entP_rise V h.wf)).1 hv)
        injection e with e _
        exact ⟨j, hj, e.symm⟩)
      unfold add
      rw [if_neg h1, if_neg (by omega), if_pos this]
    rw [e]
    clear h hr hl hel e hJ hlk hhb hvb
    go_enter Try.func12, Try.ntmps12
    go_wp2
    go_region
    go_wp2
    go_ret
    obtain ⟨q1, q2⟩ := HH.out.same (((Chg.refl _ w).alloc (.cells #[.int .i64 id, .slice A n c] 30)).drew)
    exact ⟨rfl, V, q1, q2⟩
  | false =>
    have hfn : findJ s.jobs id = none := by
      cases hf : findJ s.jobs id with
      | none => rfl
      | some k =>
        obtain ⟨j, hj, e⟩ := (has_findJ h.wf id).1 (by rw [hf]; rfl)
        rw [← e, lk_entP_some h.wf hj] at hhb
        cases hhb
    have e : add s id l = ({ s with jobs := insJ ⟨id, l, 0, none⟩ s.jobs }, 0) := by
      unfold add
      rw [if_neg h1, if_neg (by omega), if_neg (by rw [hfn]; simp)]
    have HE2 := Lib.hid e
    have HFN := Lib.hid hfn
    rw [e]
    obtain ⟨W1, hW1⟩ : ∃ W1, (w.alloc (.cells #[.int .i64 id, .slice A n c] 30)).drew = W1 := ⟨_, rfl⟩
    have hN1 : New w W1 := by rw [← hW1]; exact ((Chg.refl _ w).alloc _).drew
    have hb0 : Blk W1 w.heap.size 30 #[.int .i64 id, .slice A n c] := by rw [← hW1]; exact Blk.new w _ _
    have hp1 := h.new hN1
    have hmg : m ≠ g := fun e => by
      subst e
      obtain ⟨_, es, clock, hb, _⟩ := h.map
      have := h.blk
      unfold Blk at this
      rw [this] at hb
      cases hb
    have hmw : m ≠ w.heap.size := by omega
    have HSK := Lib.hid (show ∀ W, Chg (fun k => k = m) W1 W → W.cell? ⟨g, 3, none⟩ = some (.map (some m)) ∧ W.cell? ⟨w.heap.size, 0, none⟩ = some (.int .i64 id) ∧ W.cell? ⟨w.heap.size, 1, none⟩ = some (.slice A n c) from fun W hW =>
      ⟨(hp1.blk.chg hW (fun e => hmg e.symm)).cell 3 rfl, (hb0.chg hW (fun e => hmw e.symm)).cell 0 rfl, (hb0.chg hW (fun e => hmw e.symm)).cell 1 rfl⟩)
    have HQ := Lib.hid (show ∀ W, New W1 W → Calls Try.prog 45 #[.slice A n c] W fun e w' => ∃ A' c', e = .returned (.slice A' n c') ∧ ByT w' (fun k => W.heap.size ≤ k) (.slice A' n c') l ∧ New W w' from fun W hW => plCopied_any A n c l W (hr.new (hN1.trans hW (fun _ _ h => h))) hn)
    have HST := Lib.hid (show ∀ W v, New W1 W → ∃ w', (Instr.mapUpdate 87 (.map (some m)) (.int .i64 id) v).run Try.prog W = .ok () w' ∧ MI w' Try.prog 3 m (pt (entP V s) id v) ∧ Chg (fun k => k = m) W w' ∧ w'.heap.size = W.heap.size from fun W v hW => (hp1.map.chg hW (fun h => h)).store keyIntP Try.underlying87 (by rw [hel]; exact Nat.lt_trans (show J < 1024 by omega) (by decide)) hid v)
    have HP1 := Lib.hid hp1
    have HW1 := Lib.hid hW1
    have HN1 := Lib.hid hN1
    clear h hr hl hel e hJ hlk hhb hvb hb0 hp1 hN1 hW1
    go_enter Try.func12, Try.ntmps12
    go_wp2
    go_region
    go_wp2_with fail
    rw [HW1.out]
    have hK0 : Chg (fun k => k = m) W1 W1 := Chg.refl _ _
    have hK1 : Chg (fun k => k = m) W1 W1.drew := (Chg.refl _ _).drew
    go_region_held3 (fun W => W.cell? ⟨g, 3, none⟩ = some (.map (some m)) ∧ W.cell? ⟨w.heap.size, 0, none⟩ = some (.int .i64 id) ∧ W.cell? ⟨w.heap.size, 1, none⟩ = some (.slice A n c)) (first | exact HSK.out _ (by assumption))
      (first
      | (go_at_call 45; (with_reducible refine (HQ.out _ ?_).mono ?_); (first | exact (Chg.refl _ _).drew | exact Chg.refl _ _); rintro e w2 ⟨A2, c2, rfl, hby2, hn2⟩; (have hN2 : New W1 w2 := by (first | exact ((Chg.refl _ _).drew).new hn2 | exact hn2)); (have hK2 : Chg (fun k => k = m) W1 w2 := hN2.mono (fun _ _ hf => hf.elim)); (have hK3 : Chg (fun k => k = m) W1 (w2.alloc (.cells #[.slice A2 n c2, .slice none 0 0, .int .i64 0, .int .i64 0, .int .i64 0, .slice none 0 0, .bool false] 94)) := hK2.alloc _); obtain ⟨w5, hrun, hm5, hc5, hs5⟩ := HST.out (w2.alloc (.cells #[.slice A2 n c2, .slice none 0 0, .int .i64 0, .int .i64 0, .int .i64 0, .slice none 0 0, .bool false] 94)) (.pointer (some ⟨w2.heap.size, 0, none⟩)) (hN2.alloc _); (have hK5 : Chg (fun k => k = m) W1 w5 := hK3.trans hc5 (fun _ _ h => h)); (have HM := Lib.hid (And.intro hm5 (And.intro hc5 (And.intro hby2 (And.intro hN2 hs5))))); clear hm5 hc5 hby2 hs5))
    go_wp2
    go_ret
    exact ⟨rfl, HH.out.added hid.2 HE2.out HFN.out (HN1.out.trans HM.out.2.2.2.1 (fun _ _ h => h)) HM.out.2.2.1 (fun k hk => Nat.le_trans HN1.out.size hk) HM.out.1 HM.out.2.1⟩
end Go.Proofs.Ytbmplfhcdkeooaa
