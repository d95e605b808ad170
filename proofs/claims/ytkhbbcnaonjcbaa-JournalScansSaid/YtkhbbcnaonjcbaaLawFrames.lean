/- The walk of refuterlaw07.JournalFrames. -/
import Derived.Test.YtkhbbcnaonjcbaaLives7
import Derived.Test.YtkhbbcnaonjcbaaRefScan
import Derived.Test.YtkhbbcnaonjcbaaArgs
namespace Go.Proofs.Ytkhbbcnaonjcbaa
open Go.RowKit Go.Shelf Go.Mem Go.Pure

theorem framesP_snoc' (X : List (List UInt8)) (k : Nat) (x : List UInt8) (h : X[k]? = some x) : framesP 0 (X.take (k + 1)) = framesP 0 (X.take k) ++ frameP (k : Int) x := by
  have hk : k < X.length := (List.getElem?_eq_some_iff.1 h).1
  rw [List.take_add_one, h]
  simp only [Option.toList_some]
  rw [framesP_snoc, List.length_take, Nat.min_eq_left (by omega), Nat.zero_add]
theorem framesP_short {X : List (List UInt8)} {B : Nat} (hB : B ≤ 100000000) (hX : ∀ x ∈ X, x.length ≤ B) (hl : X.length ≤ 1000000) : ∀ k, k ≤ X.length → (framesP 0 (X.take k)).length ≤ k * (B + 40) := by
  intro k
  induction k with
  | zero => intro _; simp [framesP_nil]
  | succ k ih =>
    intro hk
    have hx : X[k]? = some (X[k]) := List.getElem?_eq_getElem (by omega)
    rw [framesP_snoc' X k _ hx, List.length_append]
    have h1 := ih (by omega)
    have h3 := hX _ (List.mem_of_getElem? hx)
    have h2 := frameP_len (k : Int) X[k] (by omega) (by omega) (by omega)
    have : (k + 1) * (B + 40) = k * (B + 40) + (B + 40) := by rw [Nat.add_mul, Nat.one_mul]
    omega
theorem lists_at {W : World} {vs : List Value} {ls : List (List UInt8)} (h : Lists W vs ls) {k : Nat} {u : Value} (hu : vs[k]? = some u) : ∃ l A n c, ls[k]? = some l ∧ l.length = n ∧ u = .slice A n c ∧ n ≤ c ∧ c ≤ maxLen ∧ Rd W A n (bs l) ∧ ∀ k, blk A = some k → k < W.heap.size := by
  have hk : k < ls.length := by have := (List.getElem?_eq_some_iff.1 hu).1; have := h.1; omega
  have hl : ls[k]? = some ls[k] := List.getElem?_eq_getElem hk
  obtain ⟨A, n, c, h1, h2, h3, h4, h5⟩ := h.2 k u _ hu hl
  exact ⟨_, A, n, c, hl, by have := h4.len; rwa [bs_length] at this, h1, h2, h3, h4, h5⟩
theorem recsOf_len (l : List Int) : (recsOf l).length ≤ 6 := by simp [recsOf]; omega
theorem recsOf_short (l : List Int) : ∀ x ∈ recsOf l, x.length ≤ 10 := by
  intro x hx
  obtain ⟨z, _, rfl⟩ := List.mem_map.1 hx
  exact recOf_len z

set_option maxHeartbeats 4000000 in
set_option maxRecDepth 100000 in
theorem journalFrames_walk (A0 : Option Addr) (n0 c0 : Nat) (l : List Int) (num : Int) (A2 : Option Addr) (n2 c2 : Nat) (b : List UInt8) (A3 : Option Addr) (n3 c3 : Nat) (rest : List UInt8) (w : World)
    (hr0 : Rd w A0 n0 (is l)) (hc0 : n0 ≤ c0) (hm0 : c0 ≤ maxLen) (hl : ∀ z ∈ l, -9223372036854775808 ≤ z ∧ z ≤ 9223372036854775807) (hnum : -9223372036854775808 ≤ num ∧ num ≤ 9223372036854775807)
    (hr2 : Rd w A2 n2 (bs b)) (hc2 : n2 ≤ c2) (hm2 : c2 ≤ maxLen) (hr3 : Rd w A3 n3 (bs rest)) (hc3 : n3 ≤ c3) (hm3 : c3 ≤ maxLen) :
    Calls Try.prog 3 #[.slice A0 n0 c0, .int .i64 num, .slice A2 n2 c2, .slice A3 n3 c3] w fun e w' => e = .returned (.bool true) ∧ New w w' := by
  have H0 := Lib.hid (And.intro hr0 (And.intro hl (And.intro hr2 hr3)))
  obtain ⟨hnum1, hnum2⟩ := hnum
  have hm0' : c0 ≤ 9223372036854775807 := hm0
  have hm2' : c2 ≤ 9223372036854775807 := hm2
  have hm3' : c3 ≤ 9223372036854775807 := hm3
  clear hr0 hl hr2 hr3 hm0 hm2 hm3
  go_enter Try.func3, Try.ntmps3
  go_wp2_with fail
  obtain ⟨hr0, hl, hr2, hr3⟩ := H0.out
  refine (few_any A2 n2 c2 200 b w hr2 hc2 hm2' (by omega)).mono ?_
  rintro e w1 ⟨Ao, co, rfl, ho1, hn1⟩
  have hol : (b.take 200).length ≤ 200 := by simp; omega
  generalize hown : b.take 200 = own at *
  generalize hno : own.length = no at *
  have hco := own_cap ho1
  have H1 := Lib.hid (And.intro ho1 (And.intro hn1 hno))
  clear hr0 hl hr2 hr3 ho1 hn1 hown hno
  go_wp2_with fail
  obtain ⟨ho1, hn1, hno⟩ := H1.out
  refine (frame_any num Ao no co own w1 hnum1 hnum2 (Rd.of_own ho1) (by omega) (fun k hk => (own_blk_le ho1 hk).2)).mono ?_
  rintro e w2 ⟨Af, cf, rfl, ho2, hn2⟩
  have hfl := frameP_len num own hnum1 hnum2 (by omega)
  generalize hfr : frameP num own = fr at *
  generalize hnf : fr.length = nf at *
  have H2 := Lib.hid (And.intro (own_chg ho1 hn2 (fun _ _ h => h)) (And.intro (hn1.new hn2) (And.intro ho2 (And.intro hfr hnf))))
  clear ho1 hn1 ho2 hn2 hfr hnf H1
  go_wp2_with fail
  obtain ⟨ho1, hn2, ho2, hfr, hnf⟩ := H2.out
  refine (refFrame_any num Ao no co own w2 hnum1 hnum2 (Rd.of_own ho1) (by omega)).mono ?_
  rw [hfr]
  rintro e w3 ⟨Ag, ng, cg, rfl, ho3, hn3⟩
  have hng : ng = nf := by have := ho3.1; rw [bs_length, hnf] at this; omega
  subst hng
  have H3 := Lib.hid (And.intro (own_chg ho1 hn3 (fun _ _ h => h)) (And.intro (hn2.new hn3) (And.intro (own_chg ho2 hn3 (fun _ _ h => h)) ho3)))
  clear ho1 hn2 ho2 hfr hnf ho3 hn3 H2
  go_wp2_with fail
  obtain ⟨ho1, hn3, ho2, ho3⟩ := H3.out
  refine (sameBytes_any Af Ag ng ng cf cg fr fr w3 (Rd.of_own ho2) (Rd.of_own ho3) (by omega) (by omega)).mono ?_
  rintro e w4 ⟨rfl, hn4⟩
  rw [show decide (fr = fr) = true by simp]
  have H4 := Lib.hid (And.intro (own_chg ho1 hn4 (fun _ _ h => h)) (hn3.new hn4))
  clear ho1 hn3 ho2 ho3 hn4 H3
  go_wp2_with fail
  obtain ⟨ho1, hn4⟩ := H4.out
  obtain ⟨hr0, hl, hr2, hr3⟩ := H0.out
  refine (records_spec A0 n0 c0 l w4 (hr0.new hn4) (by omega) hl).mono ?_
  rintro e w5 ⟨Ar, nr, cr, vr, rfl, hor, hlr, hn5⟩
  have hnr : nr ≤ 6 := by have h1 := hor.1; have h2 := hlr.1; have h3 := recsOf_len l; omega
  have hrs := recsOf_short l
  generalize hrec : recsOf l = rec at *
  have ho5 := own_chg ho1 hn5 (fun _ _ h => h)
  have H5 := Lib.hid (And.intro ho5 (And.intro (hn4.new hn5) (And.intro hor (And.intro hlr (And.intro hn4 (And.intro hn5 (And.intro hrs (And.intro hno ho1))))))))
  clear ho1 hn4 hn5 hor hlr ho5 hr0 hl hr2 hr3 H4 hrec hrs
  go_wp2_with (at_builtin; refine wpList_app elemListsB rfl _ _ rfl rfl (H5.out.2.2.1.alloc _) rfl Rd.one (by simp [Value.oneCell']) (by simp only [maxLen]; omega) (by omega) (by have := H5.out.2.2.2.2.2.1.size; simp; omega) ?_; intro Ax cx w6 hox hg6 hat6; have HO6 := Lib.hid (And.intro hox (And.intro hg6 hat6)); clear hox hg6 hat6)
  obtain ⟨ho5, hn5, hor, hlr, hn4, hn45, hrs, hno, ho1⟩ := H5.out
  obtain ⟨hox, hg6, hat6⟩ := HO6.out
  have hc6 : Chg (fun k => blk Ar = some k) w5 w6 := ((Chg.refl _ w5).alloc _).grown hg6 (fun k hk _ => hk)
  have hn6 : New w w6 := hn5.trans hc6 (fun k hk h => by have := own_blk_le hor h; have := hn4.size; omega)
  have ho6 := own_chg ho5 hc6 (fun k hk h => by have := own_blk_le ho1 hk; have := own_blk_le hor h; omega)
  have hls6 : Lists w6 (vr ++ [.slice Ao no co]) (rec ++ [own]) := (hlr.chg hc6 (row_not hor (by decide))).lists.snoc hco.1 hco.2 (Rd.of_own ho6) (fun k hk => (own_blk_le ho6 hk).2)
  have hX : ∀ x ∈ rec ++ [own], x.length ≤ 200 := by
    intro x hx
    rcases List.mem_append.1 hx with h | h
    · have := hrs x h; omega
    · simp at h; subst h; omega
  have hXl : (rec ++ [own]).length = nr + 1 := by have h1 := hor.1; have h2 := hlr.1; simp; omega
  generalize hXq : rec ++ [own] = X at *
  generalize vr ++ [.slice Ao no co] = vx at *
  obtain ⟨nx, hnx⟩ : ∃ nx, nr + 1 = nx := ⟨_, rfl⟩
  rw [hnx] at hox hXl ⊢
  have hnx7 : nx ≤ 7 := by omega
  have hrx := Rd.of_own hox
  have H6 := Lib.hid (And.intro hn6 (And.intro hrx (And.intro hls6 (And.intro hX hXl))))
  clear ho5 hn5 hor hlr hn4 hn45 hrs ho1 hox hg6 hat6 hc6 hn6 ho6 hls6 hX hXl hXq hrx H5 HO6 hno hnx hnr
  go_wp2_with fail
  go_loopw [11, 12] (fun v i wr => ∃ k : Nat, k ≤ nx ∧ i = .int .i64 k ∧ ∃ A1 m1 c1, v = .slice A1 m1 c1 ∧ m1 ≤ k * 240 ∧ wr.ownsRow w6.heap.size 5 1 (.slice A1 m1 c1) m1 (bs (framesP 0 (X.take k))) ∧ New w6 wr)
    (fun _ i _ => nx - (intOf i).toNat)
  case atStart => exact ⟨0, by omega, rfl, none, 0, 0, rfl, by omega, World.ownsRow_nil _ _ _ _, Chg.refl _ _⟩
  case round =>
    obtain ⟨k, hk, rfl, A1, m1, c1, rfl, hm1, ho, hnew⟩ := hrel
    have HO := Lib.hid (And.intro ho hnew)
    clear ho hnew
    by_cases hlt : k < nx
    · obtain ⟨hn6, hrx, hls6, hX, hXl⟩ := H6.out
      obtain ⟨ad, u, rfl, hu, hcu⟩ := (hrx.new HO.out.2).at_ hlt
      obtain ⟨x, Au, nu, cu, hx, hxl, rfl, hnc, hcm, hru, hbu⟩ := lists_at (hls6.new HO.out.2) hu
      have hxs := hX x (List.mem_of_getElem? hx)
      rw [hxl] at hxs
      have HU := Lib.hid (And.intro hru (And.intro hbu (And.intro hx hxl)))
      clear hn6 hrx hls6 hX hXl hu hx hru hbu hxl
      go_wp2_with fail
      obtain ⟨hru, hbu, hx, hxl⟩ := HU.out
      obtain ⟨ho, hnew⟩ := HO.out
      refine (frame_any (k : Int) Au nu cu x wr (by omega) (by omega) hru (by omega) hbu).mono ?_
      rintro e w7 ⟨A7, c7, rfl, ho7, hn7⟩
      have hf7 := frameP_len (k : Int) x (by omega) (by omega) (by omega)
      have hfx := framesP_snoc' X k x hx
      generalize frameP (k : Int) x = fx at *
      generalize hn7l : fx.length = n7 at *
      have H7 := Lib.hid (And.intro (own_chg ho hn7 (fun _ _ h => h)) (And.intro (hnew.new hn7) (And.intro ho7 (And.intro hfx (And.intro ho hn7)))))
      rw [hxl] at hf7
      clear hru hbu hx hxl HU ho hnew HO hn7 ho7 hfx hn7l
      go_wp2_with (at_builtin; refine wpList_app elemBytes rfl _ _ rfl rfl H7.out.1 rfl (Rd.of_own H7.out.2.2.1) (bs_one _) (by simp only [maxLen]; omega) (by omega) (by have := H7.out.2.1.size; omega) ?_; intro A8 c8 w8 hown8 hg8 hat8; have HO8 := Lib.hid (And.intro hown8 hg8); clear hown8 hg8 hat8)
      go_roundw
      case rel =>
        obtain ⟨ho, hnew, ho7, hfx, hoo, hn7⟩ := H7.out
        obtain ⟨ho8, hg8⟩ := HO8.out
        refine ⟨k + 1, by omega, by go_num, A8, m1 + n7, c8, rfl, by omega, by rw [hfx, bs_append]; exact ho8, hnew.grown hg8 (fun i hi hlt' => by have := own_blk_le hoo hi; omega)⟩
      case measure => simp [intOf]; omega
    · obtain rfl : nx = k := by omega
      obtain ⟨hn6, hrx, hls6, hX, hXl⟩ := H6.out
      obtain ⟨ho, hnew⟩ := HO.out
      obtain ⟨hr0, hl, hr2, hr3⟩ := H0.out
      rw [List.take_of_length_le (by omega)] at ho
      have hsf := fun t h => scan_frames X 0 t h
      have hfa := fun b => framesP_append X b 0
      have hF := ho.1
      rw [bs_length] at hF
      generalize hFq : framesP 0 X = F at *
      have H9 := Lib.hid (And.intro hn6 (And.intro hrx (And.intro hls6 (And.intro hXl (And.intro ho (And.intro (hn6.new hnew) (And.intro hnew (And.intro (hr3.new (hn6.new hnew)) (And.intro hsf (And.intro hfa hF))))))))))
      clear hn6 hrx hls6 hX hXl ho hnew hr0 hl hr2 hr3 hsf hfa hFq hF HO H6 H0
      go_wp2_with fail
      obtain ⟨hn6, hrx, hls, hXl, ho, hnew, hn6r, hr3, hsf, hfa, hF⟩ := H9.out
      refine (few_any A3 n3 c3 30 rest wr hr3 hc3 hm3' (by omega)).mono ?_
      rintro e w10 ⟨At, ct, rfl, hot, hn10⟩
      have htl : (rest.take 30).length ≤ 30 := by simp; omega
      generalize rest.take 30 = tl at *
      generalize hnt : tl.length = nt at *
      have H10 := Lib.hid (And.intro hrx (And.intro hls (And.intro (own_chg ho hn10 (fun _ _ h => h)) (And.intro (hnew.new hn10) (And.intro hot (And.intro hnt (And.intro hn6 (hn6r.new hn10))))))))
      clear hn6 hrx hls ho hnew hn6r hr3 hot hn10 hnt hXl hsf hfa hF
      go_wp2_with (at_builtin; refine wpList_app elemBytes rfl _ _ rfl rfl H10.out.2.2.1 rfl (Rd.of_own H10.out.2.2.2.2.1) (bs_one _) (by simp only [maxLen]; omega) (by omega) (by have := H10.out.2.2.2.2.2.2.2.size; omega) ?_; intro A11 c11 w11 hown11 hg11 hat11; have HO11 := Lib.hid (And.intro hown11 hg11); clear hown11 hg11 hat11)
      obtain ⟨hrx, hls, ho, hnew, hot, hnt, hn6, hn6r⟩ := H10.out
      obtain ⟨ho11, hg11⟩ := HO11.out
      have hc11 : Chg (fun k => blk A1 = some k) w10 w11 := (Chg.refl _ w10).grown hg11 (fun k hk _ => hk)
      obtain ⟨_, _, _, hXl, _, _, _, _, hsf, hfa, hF⟩ := H9.out
      have hn11 : New w6 w11 := hn6r.trans hc11 (fun k hk h => by have := own_blk_le ho h; omega)
      have hcap11 := own_cap ho11
      rw [← bs_append] at ho11
      refine (scan_any A11 (m1 + nt) c11 (F ++ tl) w11 (Rd.of_own ho11) (by omega) hcap11.1 hcap11.2 (fun k hk => (own_blk_le ho11 hk).2)).mono ?_
      rintro e w12 ⟨A12, n12, c12, vs12, rfl, ho12, hls12, hn12⟩
      have hsc : scanC (F ++ tl) 0 = X ++ scanC tl (0 + X.length) := hsf tl (by simp only [List.length_append]; omega)
      have heq : scanC (F ++ tl) 0 = scanRf (F ++ tl) 0 := scan_eq _ _ _ (Nat.le_refl _) (by simp only [List.length_append]; omega)
      have hkm : m1 ≤ (framesP 0 (scanC (F ++ tl) 0)).length := by rw [hsc, hfa, List.length_append]; omega
      have hnx12 : nx ≤ n12 := by
        have h1 := ho12.1
        have h2 := hls12.1
        rw [hsc] at h2
        simp only [List.length_append] at h2
        omega
      have htake : (scanC (F ++ tl) 0).take nx = X := by rw [hsc]; exact List.take_left' hXl
      generalize hS : scanC (F ++ tl) 0 = S at *
      generalize hKq : (framesP 0 S).length = K at *
      have hc12 := own_cap ho12
      have hc12' : c12 ≤ 9223372036854775807 := hc12.2
      have H12 := Lib.hid (And.intro (hrx.new (hn11.new hn12)) (And.intro (hls.new (hn11.new hn12)) (And.intro (hn6.new (hn11.new hn12)) (And.intro (own_chg ho11 hn12 (fun _ _ h => h)) (And.intro ho12 (And.intro hls12 (And.intro heq (And.intro hKq htake))))))))
      clear hrx hls ho hnew hot hnt hn6 hn6r ho11 hg11 hc11 hXl hsf hfa hF hn11 ho12 hls12 hn12 hsc heq htake hS hKq H9 H10 HO11
      go_wp2_with fail
      obtain ⟨hrx, hls, hnw, ho11, ho12, hls12, heq, hKq, htake⟩ := H12.out
      refine (rscan_any A11 (m1 + nt) c11 (F ++ tl) w12 (Rd.of_own ho11) (by omega) hcap11.1 hcap11.2 (fun k hk => (own_blk_le ho11 hk).2)).mono ?_
      rw [← heq, hKq]
      rintro e w13 ⟨A13, n13, c13, vs13, rfl, ho13, hls13, hn13⟩
      have hn13l : n13 = n12 := by have h1 := ho12.1; have h2 := hls12.1; have h3 := ho13.1; have h4 := hls13.1; omega
      subst hn13l
      have hrun := fun W => run_upto elemListsB .i64 A12 n13 c12 nx (nx : Int) rfl (by omega) W
      have H13 := Lib.hid (And.intro (hrx.new hn13) (And.intro (hls.new hn13) (And.intro (hnw.new hn13) (And.intro ((Rd.of_own ho12).new hn13) (And.intro (hls12.new hn13) (And.intro (Rd.of_own ho13) (And.intro hls13 htake)))))))
      clear hrx hls hnw ho11 ho12 hls12 heq hKq htake ho13 hls13 hn13 H12
      go_wp2_with fail
      obtain ⟨hrx, hls, hnw, hr12, hls12, hr13, hls13, htake⟩ := H13.out
      refine (sameLists_any A12 A13 n13 n13 c12 c13 vs12 vs13 S S _ hr12 hls12 hr13 hls13 (by omega) (by omega)).mono ?_
      rintro e w14 ⟨rfl, q, hq⟩
      rw [show decide (S = S) = true by simp]
      have hn14 : New w13 w14 := by
        show Chg _ _ _
        rw [hq]
        exact (Chg.refl _ _).drewN q
      have H14 := Lib.hid (And.intro (hrx.new hn14) (And.intro (hls.new hn14) (And.intro (hnw.new hn14) (And.intro (hr12.new hn14) (And.intro (hls12.new hn14) htake)))))
      clear hrx hls hnw hr12 hls12 hr13 hls13 htake hq hn14 H13
      go_wp2_with fail
      obtain ⟨hrx, hls, hnw, hr12, hls12, htake⟩ := H14.out
      have hr15 := hr12.take hnx12
      have hls15 := hls12.take nx
      rw [htake] at hls15
      refine (sameLists_any A12 Ax nx nx c12 cx _ _ X X _ hr15 hls15 hrx hls (by omega) (by omega)).mono ?_
      rintro e w15 ⟨rfl, q, hq⟩
      rw [show decide (X = X) = true by simp]
      have hn15 : New w w15 := by
        show Chg _ _ _
        rw [hq]
        exact hnw.drewN q
      have H15 := Lib.hid hn15
      clear hrx hls hnw hr12 hls12 htake hr15 hls15 hq hn15 H14
      go_wp2_with fail
      refine (lives_any _).mono ?_
      rintro e w16 ⟨rfl, hn16⟩
      have H16 := Lib.hid (H15.out.new hn16)
      clear hn16
      go_wp2
      go_ret
      exact ⟨rfl, H16.out⟩
end Go.Proofs.Ytkhbbcnaonjcbaa
