/- Contract of pool: works. -/
import Derived.Test.YtbmplfhcdkeooaaPlBZ
set_option linter.unusedSimpArgs false
set_option linter.unusedVariables false
namespace Go.Proofs.Ytbmplfhcdkeooaa
set_option linter.unusedVariables false
open Go.RowKit Go.Mem Go.Pl

/-! ### whether a worker works -/
theorem running_at {s : S} (h : WF s) {j : Job} (hj : j ∈ s.jobs) {t : Tr} (ht : t ∈ triesOf s j.id) (tick : Int) : running s t tick = runJ s j t tick := by
  have e : t.task = j.id := by simpa using (List.mem_filter.1 ht).2
  unfold running runJ
  rw [e, answered_at h hj]
  cases j.ans <;> rfl
theorem given_at {s : S} (h : WF s) {j : Job} (hj : j ∈ s.jobs) (tick : Int) : given s j.id tick = (triesOf s j.id).any (fun x => runJ s j x tick) := by
  rw [Bool.eq_iff_iff, List.any_eq_true]
  unfold given
  rw [List.any_eq_true]
  constructor
  · rintro ⟨t, ht, hb⟩
    simp only [Bool.and_eq_true, beq_iff_eq] at hb
    have hm : t ∈ triesOf s j.id := List.mem_filter.2 ⟨ht, by simp [hb.1]⟩
    exact ⟨t, hm, by rw [← running_at h hj hm]; exact hb.2⟩
  · rintro ⟨t, hm, hb⟩
    obtain ⟨h1, h2⟩ := List.mem_filter.1 hm
    exact ⟨t, h1, by rw [running_at h hj hm]; simpa [hb] using h2⟩
/-- A try of a worker that is running. -/
def wrk (s : S) (worker tick : Int) (j : Job) (x : Tr) : Bool := x.worker == worker && runJ s j x tick
theorem works_true {s : S} (h : WF s) {j : Job} (hj : j ∈ s.jobs) {t : Tr} (ht : t ∈ triesOf s j.id) {worker tick : Int} (hw : wrk s worker tick j t = true) : works s worker tick = true := by
  unfold works wrk at *
  rw [List.any_eq_true]
  exact ⟨t, (List.mem_filter.1 ht).1, by rw [running_at h hj ht]; exact hw⟩
theorem works_false {s : S} (h : WF s) {worker tick : Int} (hw : ∀ j ∈ s.jobs, (triesOf s j.id).any (wrk s worker tick j) = false) : works s worker tick = false := by
  unfold works
  rw [List.any_eq_false]
  intro t ht
  obtain ⟨⟨j, hj, e⟩, _⟩ := h.tr t ht
  have hm : t ∈ triesOf s j.id := List.mem_filter.2 ⟨ht, by simp [e]⟩
  have := List.any_eq_false.1 (hw j hj) t hm
  rw [running_at h hj hm]
  exact this
theorem PI.inv {w : World} {g m : Nat} {dv : Value} {V : Int → Loc} {T : Nat → Prop} {s : S} (h : PI w g m dv V T s) : ∀ i v, (i, v) ∈ entP V s → ∃ tb : Nat, v = .pointer (some ⟨tb, 0, none⟩) := fun i v hm => by
  obtain ⟨j, hj, e⟩ := mem_entP.1 hm
  injection e with e1 e2
  exact ⟨_, e2⟩
set_option maxHeartbeats 2000000 in
set_option maxRecDepth 100000 in
theorem plWorks_any (g m : Nat) (dv : Value) (V : Int → Loc) (T : Nat → Prop) (s : S) (w : World) (h : PI w g m dv V T s) (worker tick : Int) :
    Calls Try.prog 48 #[.pointer (some ⟨g, 0, none⟩), .int .i64 worker, .int .i64 tick] w fun e w' => e = .returned (.bool (works s worker tick)) ∧ New w w' := by
  have hc3 := h.blk.cell 3 (u := .map (some m)) rfl
  have hgl := h.blk.lt
  have HH := Lib.hid h
  have HINV := Lib.hid h.inv
  clear h
  go_enter Try.func48, Try.ntmps48
  go_wp2_with (at_range; refine wpList_rangeI _ rfl _ rfl keyIntP Try.underlying87 rfl HH.out.map ?_; intro w0 hr0 hn0 hs0)
  have HR0 := Lib.hid hr0
  have HN0 := Lib.hid hn0
  clear hr0 hn0
  go_frame
  go_loopw [] (fun wr => ∃ left, Go.Mem.RI wr Try.prog 3 m w.heap.size (entP V s) left ∧ (∀ j ∈ s.jobs, left j.id = false → (triesOf s j.id).any (wrk s worker tick j) = false) ∧ New w wr) (fun wr => wr.rangeLeft m w.heap.size)
  case atStart => exact ⟨_, HR0.out, fun j hj hl => by simp [lk_entP_some HH.out.wf hj] at hl, HN0.out⟩
  case round =>
    obtain ⟨left, hri, hall, hnw⟩ := hrel
    have HRI := Lib.hid hri
    have HALL := Lib.hid hall
    have HNW := Lib.hid hnw
    clear hri hall hnw
    go_wp2_with (at_next; refine wpList_nextI wr rfl _ rfl keyIntP rfl HRI.out (fun tb : Nat => Value.pointer (some ⟨tb, 0, none⟩)) HINV.out ?_ ?_)
    · intro hdone
      go_wp2
      go_ret
      have := works_false HH.out.wf (worker := worker) (tick := tick) (fun j hj => HALL.out j hj (hdone j.id))
      exact ⟨by rw [this]; rfl, HNW.out⟩
    · intro i tb w1 hm hi hl hr1 hc2 hsz hlt hen
      obtain ⟨j, hj, e⟩ := mem_entP.1 hm
      injection e with e1 e2
      injection e2 with e2
      injection e2 with e2
      injection e2 with e2
      subst e1
      subst e2
      have hN1 : New w w1 := HNW.out.owned hc2 (fun k e => by omega)
      have hp1 := HH.out.new hN1
      obtain ⟨A, c, hv, hnc, hcm, _⟩ := ownN_shape (hp1.tries j hj)
      have hown := hp1.tries j hj
      have hq1 := (hp1.task j hj).cell 1 (u := (V j.id).tv) rfl
      have htl := (hp1.task j hj).lt
      rw [hv] at hq1 hown
      unfold maxLen at hcm
      have hnl := (HH.out.wf.num j hj).1
      have HP1 := Lib.hid hp1
      have HOW := Lib.hid hown
      have HX := Lib.hid (And.intro hr1 (And.intro hN1 (And.intro hlt (And.intro hj hl))))
      have HNL := Lib.hid hnl
      have HRU := Lib.hid (show ∀ (x : Tr) W, x ∈ triesOf s j.id → New w1 W → Calls Try.prog 72 #[.pointer (some ⟨g, 0, none⟩), .pointer (some ⟨(V j.id).tb, 0, none⟩), .agg #[.int .i64 x.worker, .int .i64 x.tick, .bool x.over], .int .i64 tick] W fun e w' => e = .returned (.bool (runJ s j x tick)) ∧ New W w' from
        fun x W hx hW => plRunning_any g m dv s j (V j.id) x tick W (hp1.blk.chg hW (fun h => h)) ((hp1.task j hj).chg hW (fun h => h)) HH.out.wf.to (HH.out.wf.tr x (List.mem_filter.1 hx).1).2.1)
      generalize (V j.id).tb = tb at *
      generalize j.n = n at *
      clear hm hi hl hr1 hc2 hsz hlt hN1 hp1 hv hown hnl hj
      go_wp2
      go_loopw [25] (fun v wr2 => ∃ k : Nat, k ≤ n ∧ v = .int .i64 (k : Int) ∧ ((triesOf s j.id).take k).any (wrk s worker tick j) = false ∧ New w1 wr2) (fun v _ => n - (intOf v).toNat)
      case atStart => exact ⟨0, Nat.zero_le _, rfl, by simp, Chg.refl _ _⟩
      case round =>
        obtain ⟨k, hk, rfl, hany, hnew⟩ := hrel
        have HA := Lib.hid hany
        have HNW2 := Lib.hid hnew
        by_cases hlt : k < n
        · obtain ⟨x, hx⟩ : ∃ x, (triesOf s j.id)[k]? = some x := ⟨_, List.getElem?_eq_getElem (by rw [HNL.out]; exact hlt)⟩
          obtain ⟨t0, t1, t2⟩ := trsV_at hx
          have hown := ownN_chg HOW.out hnew (fun _ _ h => h)
          obtain ⟨ga, rfl, c0, _⟩ := ownN_cell hown t0
          obtain ⟨_, e1, c1, _⟩ := ownN_cell hown t1
          obtain ⟨_, e2, c2, _⟩ := ownN_cell hown t2
          injection e1 with e1; injection e1 with e1; subst e1
          injection e2 with e2; injection e2 with e2; subst e2
          have hxm := List.mem_of_getElem? hx
          have HX2 := Lib.hid (And.intro hx hxm)
          have hgl2 : ga < wr.heap.size := by have := World.block_lt_of_cell? _ _ c0; exact this
          clear t0 t1 t2 hown hx hany hnew hxm
          cases hw : x.worker == worker with
          | false =>
            have HW := Lib.hid hw
            have hstep : ((triesOf s j.id).take (k + 1)).any (wrk s worker tick j) = false := by
              rw [List.take_add_one, HX2.out.1, List.any_append, HA.out]
              simp [wrk, HW.out]
            have HST := Lib.hid hstep
            clear hstep
            go_wp2
            go_roundw
            case rel => exact ⟨k + 1, by omega, by go_num, HST.out, HNW2.out.alloc _⟩
            case measure => simp [intOf]; omega
          | true =>
            have HW := Lib.hid hw
            cases hr : runJ s j x tick with
            | true =>
              have HR2 := Lib.hid (show ∀ W, New w1 W → Calls Try.prog 72 #[.pointer (some ⟨g, 0, none⟩), .pointer (some ⟨tb, 0, none⟩), .agg #[.int .i64 x.worker, .int .i64 x.tick, .bool x.over], .int .i64 tick] W fun e w' => e = .returned (.bool true) ∧ New W w' from fun W hW => hr ▸ HRU.out x W HX2.out.2 hW)
              have hwt := works_true HH.out.wf HX.out.2.2.2.1 HX2.out.2 (worker := worker) (tick := tick) (by unfold wrk; rw [HW.out, hr]; rfl)
              have HWT := Lib.hid hwt
              clear hr hwt
              go_wp2_with (go_at_call 72; refine (HR2.out _ (HNW2.out.alloc _)).mono ?_; rintro e w2 ⟨rfl, hn2⟩)
              go_ret
              exact ⟨by rw [HWT.out]; rfl, (HX.out.2.1.trans (HNW2.out.alloc _) (fun _ _ h => h)).trans hn2 (fun _ _ h => h)⟩
            | false =>
              have HR2 := Lib.hid (show ∀ W, New w1 W → Calls Try.prog 72 #[.pointer (some ⟨g, 0, none⟩), .pointer (some ⟨tb, 0, none⟩), .agg #[.int .i64 x.worker, .int .i64 x.tick, .bool x.over], .int .i64 tick] W fun e w' => e = .returned (.bool false) ∧ New W w' from fun W hW => hr ▸ HRU.out x W HX2.out.2 hW)
              have hstep : ((triesOf s j.id).take (k + 1)).any (wrk s worker tick j) = false := by
                rw [List.take_add_one, HX2.out.1, List.any_append, HA.out]
                simp [wrk, hr]
              have HST := Lib.hid hstep
              clear hr hstep
              go_wp2_with (go_at_call 72; refine (HR2.out _ (HNW2.out.alloc _)).mono ?_; rintro e w2 ⟨rfl, hn2⟩; have HN2 := Lib.hid hn2; clear hn2)
              go_roundw
              case rel => exact ⟨k + 1, by omega, by go_num, HST.out, (HNW2.out.alloc _).trans HN2.out (fun _ _ h => h)⟩
              case measure => simp [intOf]; omega
        · obtain rfl : k = n := by omega
          go_wp2
          have hall2 : (triesOf s j.id).any (wrk s worker tick j) = false := by have := HA.out; rwa [← HNL.out, List.take_length] at this
          go_roundw
          case rel => exact ⟨_, HX.out.1.chg HNW2.out (fun h => h) (fun h => h), fun i hi hl => by
            by_cases e : i.id = j.id
            · rw [rise_uniq HH.out.wf.rise hi HX.out.2.2.2.1 e]; exact hall2
            · exact HALL.out i hi (by simpa [e] using hl), HX.out.2.1.trans HNW2.out (fun _ _ h => h)⟩
          case measure =>
            rw [RI.left_chg HX.out.1 HNW2.out (fun h => h) (fun h => h)]
            exact HX.out.2.2.1
end Go.Proofs.Ytbmplfhcdkeooaa
