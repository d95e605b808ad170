/- The walk of refuterlaw07.JournalScans. -/
import Derived.Test.YtkhbbcnaonjcbaaLawFrames
import Derived.Test.YtkhbbcnaonjcbaaMemSet
import Derived.Deep.RegionWith
import Derived.Deep.CutRange
namespace Go.Proofs.Ytkhbbcnaonjcbaa
open Go.RowKit Go.Shelf Go.Mem Go.Pure

set_option maxHeartbeats 4000000 in
set_option maxRecDepth 100000 in
theorem journalScans_walk (A0 : Option Addr) (n0 c0 : Nat) (raw : List UInt8) (A1 : Option Addr) (n1 c1 : Nat) (l : List Int) (at_ : Int) (c : UInt8) (w : World)
    (hr0 : Rd w A0 n0 (bs raw)) (hc0 : n0 ≤ c0) (hm0 : c0 ≤ maxLen) (hr1 : Rd w A1 n1 (is l)) (hc1 : n1 ≤ c1) (hm1 : c1 ≤ maxLen) (hl : ∀ z ∈ l, -9223372036854775808 ≤ z ∧ z ≤ 9223372036854775807) (hat : -9223372036854775808 ≤ at_ ∧ at_ ≤ 9223372036854775807) :
    Calls Try.prog 4 #[.slice A0 n0 c0, .slice A1 n1 c1, .int .i64 at_, .int .u8 (c.toNat : Int)] w fun e w' => e = .returned (.bool true) ∧ New w w' := by
  have H0 := Lib.hid (And.intro hr0 (And.intro hl hr1))
  obtain ⟨hat1, hat2⟩ := hat
  have hm0' : c0 ≤ 9223372036854775807 := hm0
  have hm1' : c1 ≤ 9223372036854775807 := hm1
  have hcb := c.toNat_lt
  clear hr0 hl hr1 hm0 hm1
  go_enter Try.func4, Try.ntmps4
  go_wp2_with fail
  obtain ⟨hr0, hl, hr1⟩ := H0.out
  refine (records_spec A1 n1 c1 l w hr1 (by omega) hl).mono ?_
  rintro e w6 ⟨Ax, nx, cx, vx, rfl, hox, hlx, hn6⟩
  have hnx7 : nx ≤ 6 := by have h1 := hox.1; have h2 := hlx.1; have h3 := recsOf_len l; omega
  have hX := recsOf_short l
  have hXl : (recsOf l).length = nx := by have h1 := hox.1; have h2 := hlx.1; omega
  generalize hXq : recsOf l = X at *
  have H6 := Lib.hid (And.intro hn6 (And.intro (Rd.of_own hox) (And.intro hlx.lists (And.intro hX hXl))))
  clear hr0 hl hr1 hox hlx hn6 hX hXl hXq
  go_wp2_with fail
  go_loopw [10, 11] (fun v i wr => ∃ k : Nat, k ≤ nx ∧ i = .int .i64 k ∧ ∃ A1 m1 c1, v = .slice A1 m1 c1 ∧ m1 ≤ k * 50 ∧ wr.ownsRow w6.heap.size 5 1 (.slice A1 m1 c1) m1 (bs (framesP 0 (X.take k))) ∧ New w6 wr)
    (fun _ i _ => nx - (intOf i).toNat)
  case atStart => exact ⟨0, by omega, rfl, none, 0, 0, rfl, by omega, World.ownsRow_nil _ _ _ _, Chg.refl _ _⟩
  case round =>
    obtain ⟨k, hk, rfl, A1, m1, c1, rfl, hm1, ho, hnew⟩ := hrel
    have HO := Lib.hid (And.intro ho hnew)
    clear ho hnew
    by_cases hlt : k < nx
    · obtain ⟨hn6, hrx, hls6, hX, hXl⟩ := H6.out
      obtain ⟨ad, u, rfl, hu, hcu⟩ := (hrx.new HO.out.2).at_ hlt
      obtain ⟨x, Au, nu, cu, hx, hxl, rfl, hnc, hcm, hru, hbu⟩ := lists_at (hls6.new HO.out.2) hu
      have hxs := hX x (List.mem_of_getElem? hx)
      rw [hxl] at hxs
      have HU := Lib.hid (And.intro hru (And.intro hbu (And.intro hx hxl)))
      clear hn6 hrx hls6 hX hXl hu hx hru hbu hxl
      go_wp2_with fail
      obtain ⟨hru, hbu, hx, hxl⟩ := HU.out
      obtain ⟨ho, hnew⟩ := HO.out
      refine (refFrame_any (k : Int) Au nu cu x wr (by omega) (by omega) hru (by omega)).mono ?_
      rintro e w7 ⟨A7, n7, c7, rfl, ho7, hn7⟩
      have hf7 := frameP_len (k : Int) x (by omega) (by omega) (by omega)
      have hfx := framesP_snoc' X k x hx
      have hn7l : (frameP (k : Int) x).length = n7 := by have := ho7.1; rw [bs_length] at this; omega
      generalize frameP (k : Int) x = fx at *
      have H7 := Lib.hid (And.intro (own_chg ho hn7 (fun _ _ h => h)) (And.intro (hnew.new hn7) (And.intro ho7 (And.intro hfx (And.intro ho hn7)))))
      rw [hxl, hn7l] at hf7
      clear hru hbu hx hxl HU ho hnew HO hn7 ho7 hfx hn7l
      go_wp2_with (at_builtin; refine wpList_app elemBytes rfl _ _ rfl rfl H7.out.1 rfl (Rd.of_own H7.out.2.2.1) (bs_one _) (by simp only [maxLen]; omega) (by omega) (by have := H7.out.2.1.size; omega) ?_; intro A8 c8 w8 hown8 hg8 hat8; have HO8 := Lib.hid (And.intro hown8 hg8); clear hown8 hg8 hat8)
      go_roundw
      case rel =>
        obtain ⟨ho, hnew, ho7, hfx, hoo, hn7⟩ := H7.out
        obtain ⟨ho8, hg8⟩ := HO8.out
        refine ⟨k + 1, by omega, by go_num, A8, m1 + n7, c8, rfl, by omega, by rw [hfx, bs_append]; exact ho8, hnew.grown hg8 (fun i hi hlt' => by have := own_blk_le hoo hi; omega)⟩
      case measure => simp [intOf]; omega
    · obtain ⟨ho, hnew⟩ := HO.out
      generalize framesP 0 (X.take k) = al0 at *
      have hml : m1 ≤ 300 := by omega
      have hcap1 := own_cap ho
      have hcap1a := hcap1.1
      have hcap1b : c1 ≤ 9223372036854775807 := hcap1.2
      have HO1 := Lib.hid (And.intro ho hnew)
      clear ho hnew HO hcap1
      go_upto_if 36 with fail
      go_cut [10] from 34 to 43 (fun v wc => ∃ A1 m1 c1 al, v = .slice A1 m1 c1 ∧ m1 ≤ 300 ∧ wc.ownsRow w6.heap.size 5 1 (.slice A1 m1 c1) m1 (bs al) ∧ New w6 wc)
      case first =>
        by_cases hz : 0 < m1
        · have hgt : (0 : Int) < (m1 : Int) := by omega
          go_wp2_with fail
          refine (around_any at_ (m1 : Int) wr hat1 hat2 (by omega) (by omega)).mono ?_
          rintro e w8 ⟨rfl, rfl⟩
          have hrange := aroundI_range at_ (m1 : Int) (by omega)
          obtain ⟨K, hK⟩ : ∃ K : Nat, aroundI at_ (m1 : Int) = (K : Int) := ⟨_, (Int.toNat_of_nonneg hrange.1).symm⟩
          rw [hK] at hrange ⊢
          have hKm : K < m1 := by omega
          obtain ⟨ho, hnew⟩ := HO1.out
          obtain ⟨gt, rfl, hgt1, hgt2, hfz⟩ := own_form ho hz
          have hal : al0.length = m1 := by have := ho.1; rw [bs_length] at this; omega
          obtain ⟨x, hx⟩ : ∃ x, al0[K]? = some x := ⟨_, List.getElem?_eq_getElem (by omega)⟩
          have hcell : wr.cell? ⟨gt, K, none⟩ = some (.int .u8 (x.toNat : Int)) := own_cell ho (by simp [bs, By, hx])
          have hfz' := hfz K
          clear ho hnew hK hfz hx hrange hal
          go_wp2
          go_meet
          case rel =>
            obtain ⟨ho, hnew⟩ := HO1.out
            refine ⟨_, m1, c1, al0.set K c, rfl, hml, ?_, hnew.setCell (fun h => by have h' : gt < w6.heap.size := h; omega) _⟩
            have := own_set ho K (.int .u8 (c.toNat : Int)) hKm
            rwa [show (bs al0).set K (.int .u8 (c.toNat : Int)) = bs (al0.set K c) by unfold bs; rw [List.map_set]; rfl] at this
        · have hgt : decide ((0 : Int) < (m1 : Int)) = false := by simp; omega
          go_wp2
          go_meet
          case rel => exact ⟨A1, m1, c1, al0, rfl, hml, HO1.out⟩
      case rest =>
        clear HO1 hcap1a hcap1b hml hk hlt hm1
        obtain ⟨A2, m2, c2, al, rfl, hm2, ho, hnew⟩ := hcut
        have hcap2 := own_cap ho
        have HO2 := Lib.hid (And.intro ho (And.intro hnew hcap2))
        have hmin : ∃ mr : Nat, (mr ≤ n0 ∧ mr ≤ 5) ∧ ∀ ts t W, (Builtin.min_ ts t #[.int .i64 (n0 : Int), .int .i64 5]).run Try.prog W = .ok (.int .i64 (mr : Int)) W := by
          rcases Nat.le_total n0 5 with h | h
          · exact ⟨n0, ⟨Nat.le_refl _, h⟩, fun ts t W => run_min2 _ _ _ (.inl ⟨by omega, rfl⟩) ts t W⟩
          · exact ⟨5, ⟨h, Nat.le_refl _⟩, fun ts t W => run_min2 _ _ _ (.inr ⟨by omega, rfl⟩) ts t W⟩
        obtain ⟨mr, ⟨hmr1, hmr2⟩, hmin⟩ := hmin
        have hcut := fun W => run_upto elemBytes .i64 A0 n0 c0 mr (mr : Int) rfl (by omega) W
        have hnw : New w wc := H6.out.1.new hnew
        obtain ⟨hr0, _, _⟩ := H0.out
        have hf1 : ∀ W, New wc W → Calls Try.prog 11 #[.slice A0 n0 c0, .int .i64 60] W fun e w' => ∃ A' n' c', e = .returned (.slice A' n' c') ∧ Hid (n' ≤ 60 ∧ w'.ownsRow W.heap.size 5 1 (.slice A' n' c') n' (bs (raw.take 60))) ∧ Hid (New wc w') := fun W hW =>
          (few_any A0 n0 c0 60 raw W (hr0.new (hnw.new hW)) hc0 hm0' (by omega)).mono fun e w' ⟨A', c', h1, h2, h3⟩ => ⟨A', _, c', h1, ⟨by simp; omega, h2⟩, hW.new h3⟩
        have hf2 : ∀ W, Hid (New wc W) → Calls Try.prog 14 #[.int .i64 1, .slice A0 mr c0] W fun e w' => ∃ A' n' c', e = .returned (.slice A' n' c') ∧ Hid (n' ≤ 45 ∧ w'.ownsRow W.heap.size 5 1 (.slice A' n' c') n' (bs (frameP 1 (raw.take mr)))) ∧ Hid (New W w') := fun W hW =>
          (refFrame_any 1 A0 mr c0 (raw.take mr) W (by omega) (by omega) (by have := (hr0.new (hnw.new hW.out)).take hmr1; rwa [bs_take] at this) (by omega)).mono fun e w' ⟨A', n', c', h1, h2, h3⟩ => ⟨A', n', c', h1, ⟨by
            have h4 := h2.1
            have h5 := frameP_len 1 (raw.take mr) (by omega) (by omega) (by simp; omega)
            rw [List.length_take] at h5
            rw [bs_length] at h4
            omega, h2⟩, h3⟩
        have HNW := Lib.hid hnw
        have HF := Lib.hid (And.intro hf1 hf2)
        clear ho hnew hcap2 hr0 hnw hf1 hf2
        go_upto_region 9 with fail
        go_cut [12] from 44 to 53 (fun v wc => ∃ A3 vs ls, v = .slice A3 3 3 ∧ Rd wc A3 3 vs ∧ Lists wc vs ls ∧ (∀ x ∈ ls, x.length ≤ 300) ∧ New w6 wc)
        case first =>
          go_region_with (first
            | (go_at_call 11; refine (HF.out.1 _ ?_).mono ?_; exact (Chg.refl _ wc).drew; rintro e wf ⟨Af, nf, cf, rfl, HFA, HFN⟩)
            | (go_at_call 14; refine (HF.out.2 _ ?_).mono ?_; exact HFN; rintro e wg ⟨Ag, ng, cg, rfl, HGA, HGN⟩))
          all_goals
            go_wp2_with fail
            go_meet
            case rel =>
              obtain ⟨ho2, hnew, hcap2⟩ := HO2.out
              have hng : New wc wg := HFN.out.new HGN.out
              have hw3 : New wg (wg.alloc (.cells #[.slice Af nf cf, .slice A2 m2 c2, .slice Ag ng cg] 23)) := (Chg.refl _ wg).alloc _
              have hofa := own_chg HFA.out.2 HGN.out (fun _ _ h => h)
              have ho2g := own_chg ho2 hng (fun _ _ h => h)
              refine ⟨_, _, [raw.take 60, al, frameP 1 (raw.take mr)], rfl, Rd.lit [.slice Af nf cf, .slice A2 m2 c2, .slice Ag ng cg] rfl, Lists.new ?_ hw3, ?_, hnew.new (hng.new hw3)⟩
              · have h1 := (Lists.nil wg).snoc (own_cap hofa).1 (own_cap hofa).2 (Rd.of_own hofa) (fun k hk => (own_blk_le hofa hk).2)
                have h2 := h1.snoc hcap2.1 hcap2.2 (Rd.of_own ho2g) (fun k hk => (own_blk_le ho2g hk).2)
                exact h2.snoc (own_cap HGA.out.2).1 (own_cap HGA.out.2).2 (Rd.of_own HGA.out.2) (fun k hk => (own_blk_le HGA.out.2 hk).2)
              · intro x hx
                have e1 := HGA.out.2.1
                have e2 := ho2.1
                have e3 := HGA.out.1
                rw [bs_length] at e1 e2
                simp only [List.mem_cons, List.not_mem_nil, or_false] at hx
                rcases hx with rfl | rfl | rfl
                · simp; omega
                · omega
                · omega
        case rest =>
          clear HF HO2 hmin
          obtain ⟨A3, vs, ls, rfl, hr3, hls3, hl3, hn3⟩ := hcut
          have H3 := Lib.hid (And.intro hr3 (And.intro hls3 (And.intro hl3 (H6.out.1.new hn3))))
          clear hr3 hls3 hl3 hn3 H6 H0 HNW
          go_wp2_with fail
          go_loopw [13] (fun i wr => ∃ k : Nat, k ≤ 3 ∧ i = .int .i64 k ∧ New wc wr) (fun i _ => 3 - (intOf i).toNat)
          case atStart => exact ⟨0, by omega, rfl, Chg.refl _ _⟩
          case round =>
            obtain ⟨j, hj, rfl, hnew⟩ := hrel
            have HO := Lib.hid hnew
            clear hnew
            by_cases hlt : j < 3
            · have hlti : (j : Int) < 3 := by omega
              obtain ⟨hr3, hls3, hl3, hn3⟩ := H3.out
              obtain ⟨ad, u, rfl, hu, hcu⟩ := (hr3.new HO.out).at_ hlt
              obtain ⟨x, Au, nu, cu, hx, hxl, rfl, hnc, hcm, hru, hbu⟩ := lists_at (hls3.new HO.out) hu
              have hxs := hl3 x (List.mem_of_getElem? hx)
              rw [hxl] at hxs
              have HU := Lib.hid (And.intro hru (And.intro hbu (And.intro hcm hxl)))
              clear hr3 hls3 hl3 hn3 hu hx hxl hru hbu hcm
              go_wp2_with fail
              obtain ⟨hru, hbu, hcm, hxl⟩ := HU.out
              refine (scan_any Au nu cu x wr hru (by omega) hnc hcm hbu).mono ?_
              rintro e w12 ⟨A12, n12, c12, vs12, rfl, ho12, hls12, hn12⟩
              have heq : scanC x 0 = scanRf x 0 := scan_eq _ _ _ (Nat.le_refl _) (by omega)
              generalize hS : scanC x 0 = S at *
              generalize hKq : (framesP 0 S).length = K at *
              have hcell2 := hn12.cell hcu (fun h => h)
              have hc12 := own_cap ho12
              have hc12' : c12 ≤ 9223372036854775807 := hc12.2
              have H12 := Lib.hid (And.intro (hru.new hn12) (And.intro ho12 (And.intro hls12 (And.intro hn12 (And.intro heq (And.intro hKq (And.intro hbu hcm)))))))
              clear hru hbu hcm hxl ho12 hls12 hn12 heq hS hKq HU hcu
              go_wp2_with fail
              obtain ⟨hru, ho12, hls12, hn12, heq, hKq, hbu, hcm⟩ := H12.out
              refine (rscan_any Au nu cu x w12 hru (by omega) hnc hcm (fun k hk => by have := hbu k hk; have := hn12.size; omega)).mono ?_
              rw [← heq, hKq]
              rintro e w13 ⟨A13, n13, c13, vs13, rfl, ho13, hls13, hn13⟩
              have hn13l : n13 = n12 := by have h1 := ho12.1; have h2 := hls12.1; have h3 := ho13.1; have h4 := hls13.1; omega
              subst hn13l
              have H13 := Lib.hid (And.intro ((Rd.of_own ho12).new hn13) (And.intro (hls12.new hn13) (And.intro (Rd.of_own ho13) (And.intro hls13 ((HO.out.new hn12).new hn13)))))
              clear hru ho12 hls12 hn12 heq hKq hbu hcm ho13 hls13 hn13 H12 HO hcell2
              go_wp2_with fail
              obtain ⟨hr12, hls12, hr13, hls13, hnw⟩ := H13.out
              refine (sameLists_any A12 A13 n13 n13 c12 c13 vs12 vs13 S S _ hr12 hls12 hr13 hls13 (by omega) (by omega)).mono ?_
              rintro e w14 ⟨rfl, q, hq⟩
              rw [show decide (S = S) = true by simp]
              have H14 : Hid (New wc w14) := by
                show Chg _ _ _
                rw [hq]
                exact hnw.drewN q
              clear hr12 hls12 hr13 hls13 hnw hq H13
              go_wp2
              go_roundw
              case rel => exact ⟨j + 1, by omega, by go_num, H14.out⟩
              case measure => simp [intOf]; omega
            · have hlti : decide ((j : Int) < 3) = false := by simp; omega
              go_wp2_with fail
              refine (lives_any _).mono ?_
              rintro e w16 ⟨rfl, hn16⟩
              have H16 := Lib.hid ((H3.out.2.2.2.new HO.out).new hn16)
              clear hn16
              go_wp2
              go_ret
              exact ⟨rfl, H16.out⟩
end Go.Proofs.Ytkhbbcnaonjcbaa
