/- The law JournalReplays. -/
import Derived.Test.YtblcaeoeeepajaaGreatDoorB6
import Derived.Test.YtblcaeoeeepajaaGreatDoorArgsZ
import Derived.Test.YtblcaeoeeepajaaGreatDoorHeldZ
import Derived.Deep.CutRange
import Derived.Deep.RegionHeld3
namespace Go.Proofs.YtblcaeoeeepajaaGreatDoor
set_option linter.unusedVariables false
open Go.RowKit Go.Mem Go.Dk Go.Pure Go.Dig Go.Jn

/-- What the first loop holds. -/
def JLoop (w : World) (g : Nat) (v : Value) (L : List Int) (i done gr cp : Nat) (wl : World) : Prop :=
  ∃ U s tried dn, JG U w g s v (some ⟨1, done, dn⟩) wl ∧ Dr1 s (recsI L) i done tried dn ∧ WRow wl gr (i + 1) cp (pss L i) ∧ ¬ U gr ∧ w.heap.size ≤ gr
/-- What the second loop holds. -/
structure JTwo (w : World) (B gt gr n cp : Nat) (zs : List Int) (A : Option Addr) (nl : Nat) (G : List (List UInt8)) (z : Int) (wl : World) : Prop where
  new : New w wl
  rows : RrG wl B A nl G
  row : WRow wl gr n cp zs
  box : ∃ s A n c, Blk wl gt 29 #[.bool s, .slice A n c] ∧ WI wl (.agg #[.bool s, .slice A n c]) z
section
variable {w wl w2 : World} {B gt gr n cp nl : Nat} {zs : List Int} {A A' : Option Addr} {G : List (List UInt8)} {z z' : Int} {s : Bool} {n' c' : Nat} {Y : Nat → Prop}
theorem JTwo.step (h : JTwo w B gt gr n cp zs A nl G z wl) (hn : New wl w2) : JTwo w B gt gr n cp zs A nl G z w2 := by
  obtain ⟨h1, h2, h3, s, A', n', c', h4, h5⟩ := h
  exact ⟨h1.trans hn (fun _ _ h => h), h2.new hn, h3.new hn, s, A', n', c', h4.chg hn (fun h => h), h5.new hn⟩
/-- Blocks that hold no integer change. -/
theorem JTwo.far (h : JTwo w B gt gr n cp zs A nl G z wl) (hc : Chg Y wl w2) (hY : ∀ k, Y k → B ≤ k ∧ k ≠ gt ∧ k ≠ gr) (hw : w.heap.size ≤ B) (hn : ∀ k, Y k → No32 wl k) : JTwo w B gt gr n cp zs A nl G z w2 := by
  obtain ⟨h1, h2, h3, s, A', n', c', h4, h5⟩ := h
  refine ⟨h1.trans hc (fun k hk hy => ?_), h2.chg hc (fun k hy => (hY k hy).1), h3.keep hc (fun hy => (hY gr hy).2.2 rfl) hn, s, A', n', c', h4.chg hc (fun hy => (hY gt hy).2.1 rfl), WI.keep h5 hc hn⟩
  have := (hY k hy).1; omega
/-- A new sum lies in the box. -/
theorem JTwo.put (h : JTwo w B gt gr n cp zs A nl G z wl) (hc : Chg (fun k => k = gt) wl w2) (hB : B ≤ gt) (hw : w.heap.size ≤ B) (hne : gt ≠ gr) (hb : Blk w2 gt 29 #[.bool s, .slice A' n' c']) (hv : WI wl (.agg #[.bool s, .slice A' n' c']) z') : JTwo w B gt gr n cp zs A nl G z' w2 := by
  obtain ⟨h1, h2, h3, s0, A0, n0, c0, h4, h5⟩ := h
  have h32 : ∀ k, k = gt → No32 wl k := fun k e => by subst e; exact .inl ⟨_, _, h4, fun z hz => by simp at hz⟩
  exact ⟨h1.trans hc (fun k hk hy => by omega), h2.chg hc (fun k hy => by omega), h3.keep hc (fun hy => hne hy.symm) h32, s, A', n', c', hb, WI.keep hv hc h32⟩
end
theorem RrG.len {w : World} {B : Nat} {A : Option Addr} {n : Nat} {ls : List (List UInt8)} (h : RrG w B A n ls) : ls.length = n := by
  obtain ⟨vs, _, h2, _⟩ := h
  exact h2
theorem recI_raw {z : Int} (h : Sm z) : Go.Pure.rawR (recI z) 0 = (Txt.text z, [], 0) := by
  have := rawR_text (Txt.text z) [] (by have := h.text; omega)
  rw [List.append_nil] at this
  exact this

set_option maxHeartbeats 4000000 in
set_option maxRecDepth 100000 in
theorem journalReplays_walk (A1 : Option Addr) (n c1 : Nat) (L : List Int) (wn kp : Int) (hwn : -9223372036854775808 ≤ wn ∧ wn ≤ 9223372036854775807) (hkp : -9223372036854775808 ≤ kp ∧ kp ≤ 9223372036854775807) (w : World) (hr1 : Rd w A1 n (is L)) (hL : ∀ z ∈ L, -9223372036854775808 ≤ z ∧ z ≤ 9223372036854775807) (hn1 : n ≤ 9223372036854775807) (hpt : PowTab w) :
    Calls Tryz.prog 4 #[.slice A1 n c1, .int .i64 wn, .int .i64 kp] w fun e w' => e = .returned (.bool true) ∧ New w w' := by
  have hLn : L.length = n := by simpa using hr1.len
  obtain ⟨K, hK⟩ : ∃ K, min 6 n = K := ⟨_, rfl⟩
  have hKn : K ≤ n := by omega
  have hK6 : K ≤ 6 := by omega
  have hKl : (recsI L).length = K := by rw [recsI_len, hLn, hK]
  have HK := Lib.hid (show ∀ i : Nat, i < K ↔ (i < n ∧ i < 6) from fun i => by omega)
  have HLN := Lib.hid hLn
  have HKL := Lib.hid hKl
  have HR1 := Lib.hid hr1
  have HL := Lib.hid hL
  have HPT := Lib.hid hpt
  have HKP := Lib.hid hkp
  have HB := Lib.hid (recsI_bound hL)
  have HPS := Lib.hid (show ∀ i, i ≤ 7 → Sm (ps L i) from fun i hi => by
    have := ps_bound hL i
    exact Nat.lt_of_le_of_lt (Nat.le_trans this (Nat.mul_le_mul_right _ hi)) (by decide))
  obtain ⟨s0, hq0⟩ : ∃ s0, Dk.new 20000 = s0 := ⟨_, rfl⟩
  have hcal : Cal s0 (fun _ => []) := hq0 ▸ Cal.new 20000
  have hroom : s0.room = 20000 := by rw [← hq0]; rfl
  obtain ⟨s1, hop, hcal1, hroom1, _⟩ := hcal.open (i := 1) (by omega) (fun j => by simp [framesP_nil])
  have hop : openJ s0 1 = (s1, 0, []) := hop
  have HOP := Lib.hid hop
  have HD1 := Lib.hid (fun k => Dr1.start (X := recsI L) hcal1 (hroom1.trans hroom) k)
  have HQ0 := Lib.hid hq0
  obtain ⟨wn1, wn2⟩ := hwn
  clear hLn hK hKl hr1 hL hpt hkp hcal hroom hop hcal1 hroom1 hq0
  go_enter Tryz.func4, Tryz.ntmps4
  go_wp2_with fail
  refine (jfresh_any w).mono ?_
  rw [HQ0.out]
  rintro e w1 ⟨g, U0, rfl, hj0⟩
  have HJ0 := Lib.hid (JG.start hj0)
  clear hj0
  go_wp2_with fail
  refine (HJ0.out.open_ 1).mono ?_
  rw [HOP.out]
  rintro e w2 ⟨p, Ar, nl, cl, rfl, ⟨U1, hj1, hs1⟩, _⟩
  obtain ⟨gl, rfl⟩ := (show JG U1 w g s1 p (some ⟨1, 0, false⟩) w2 from hj1).val
  have HJ1 := Lib.hid (show JG U1 w g s1 (.pointer (some ⟨gl, 0, none⟩)) (some ⟨1, 0, false⟩) w2 from hj1)
  clear hj1 hs1 HJ0
  dsimp only
  go_wp2_with fail
  refine (around_any wn 13 w2 wn1 wn2 (by omega) (by omega)).mono ?_
  rintro e w3 ⟨rfl, hw3⟩
  subst hw3
  have hka := aroundI_range wn 13 (by omega)
  obtain ⟨ka, hka'⟩ : ∃ ka, aroundI wn 13 = ka := ⟨_, rfl⟩
  rw [hka'] at hka ⊢
  clear hka'
  go_wp2_with fail
  refine (HJ1.out.arm ka (by omega)).mono ?_
  rintro e w3 ⟨rfl, U2, hj2, hs2⟩
  have HJ2 := Lib.hid hj2
  have HDA := Lib.hid (HD1.out ka)
  clear hj2 hs2 HJ1
  go_wp2_with fail
  refine (wfrom_s 0 w3 (by omega)).mono ?_
  rintro e w4 ⟨s1b, A4, n4, c4, rfl, K4⟩
  have hrow := WRow.one K4.out.1
  have HLP := Lib.hid (show JLoop w g (.pointer (some ⟨gl, 0, none⟩)) L 0 0 w4.heap.size 1 (w4.alloc (.cells #[.bool s1b, .slice A4 n4 c4] 29)) from
    ⟨U2, _, 0, false, (HJ2.out.new K4.out.2).new ((Chg.refl _ w4).alloc _), HDA.out, by rw [pss_zero]; exact hrow, fun hu => by have := (HJ2.out.lt hu).1; have := K4.out.2.size; omega, (HJ2.out.new K4.out.2).was.size⟩)
  obtain ⟨w5, hw5⟩ : ∃ w5, w4.alloc (.cells #[.bool s1b, .slice A4 n4 c4] 29) = w5 := ⟨_, rfl⟩
  obtain ⟨gr0, hgr0⟩ : ∃ gr0, w4.heap.size = gr0 := ⟨_, rfl⟩
  rw [hw5, hgr0] at HLP
  have hlit := lit_w1 (s := s1b) (A := A4) (m := n4) (c := c4) w4
  rw [hw5, hgr0] at hlit
  clear hrow K4 HDA HJ2 hka HOP HD1 HQ0
  go_wp2_with fail
  go_loopw [11, 12, 13] (fun vs vd vi wl => ∃ (i done gr cp : Nat), vi = .int .i64 (i : Int) ∧ vd = .int .i64 (done : Int) ∧ vs = .slice (some ⟨gr, 0, none⟩) (i + 1) cp ∧ i ≤ K ∧ Hid (JLoop w g (.pointer (some ⟨gl, 0, none⟩)) L i done gr cp wl)) (fun _ _ vi _ => 6 - (intOf vi).toNat)
  case atStart => exact ⟨0, 0, gr0, 1, rfl, rfl, rfl, by omega, HLP⟩
  case round =>
    obtain ⟨i, done, gr, cp, rfl, rfl, rfl, hiK, hh⟩ := hrel
    have hin : (i : Int) ≤ (n : Int) := by omega
    go_upto_region 11 with fail
    go_cut [56] from 49 to 87 (fun v wx => v = .bool (decide (i < K)) ∧ wx = wr)
    case first =>
      by_cases h1 : i < n
      · have h1' : (i : Int) < (n : Int) := by omega
        by_cases h2 : i < 6
        · have h2' : (i : Int) < 6 := by omega
          go_wp2_with fail
          go_meet
          exact ⟨congrArg Value.bool (decide_eq_true ((HK.out i).2 ⟨h1, h2⟩)).symm, rfl⟩
        · have h2' : ¬ (i : Int) < 6 := by omega
          go_wp2_with fail
          go_meet
          exact ⟨congrArg Value.bool (decide_eq_false (fun h => h2 ((HK.out i).1 h).2)).symm, rfl⟩
      · have h1' : ¬ (i : Int) < (n : Int) := by omega
        go_wp2_with fail
        go_meet
        exact ⟨congrArg Value.bool (decide_eq_false (fun h => h1 ((HK.out i).1 h).1)).symm, rfl⟩
    case rest =>
      obtain ⟨rfl, hwc⟩ := hcut
      replace hwc := hwc.symm
      subst hwc
      by_cases hlt : i < K
      · have hdt : decide (i < K) = true := decide_eq_true hlt
        rw [hdt]
        obtain ⟨U, s, tried, dn, hj, hd, hrow, hug, hwg⟩ := hh.out
        have hin2 : i < n := by omega
        obtain ⟨ad, u, rfl, hu, hcu⟩ := (HR1.out.new hj.was).at_ (k := i) hin2
        obtain ⟨z, hz, rfl⟩ := is_at hu
        have hzr := HL.out z (List.mem_of_getElem? hz)
        have HZ := Lib.hid (show L[i]? = some z ∧ ps L (i + 1) = ps L i + z ∧ pss L (i + 1) = pss L i ++ [ps L i + z] ∧ (recsI L).getD i [] = recI z ∧ Sm (ps L i) ∧ Sm z ∧ Sm (ps L i + z) from ⟨hz, ps_succ hz, by rw [pss_succ, ps_succ hz], recsI_get (by omega) hz, HPS.out i (by omega), Sm.int hzr, by rw [← ps_succ hz]; exact HPS.out (i + 1) (by omega)⟩)
        have HJ := Lib.hid (And.intro hj (And.intro hd (And.intro hrow (And.intro hug hwg))))
        clear hj hd hrow hug hu hz hh hwg
        go_wp2_with fail
        refine (wfrom_s z wr hzr).mono ?_
        rintro e a1 ⟨sb, Ab, nb, cb, rfl, K1⟩
        obtain ⟨a2, ha2⟩ : ∃ a2, a1.alloc (.cells #[.bool sb, .slice Ab nb cb] 29) = a2 := ⟨_, rfl⟩
        obtain ⟨gb, hgb⟩ : ∃ gb, a1.heap.size = gb := ⟨_, rfl⟩
        obtain ⟨a3, ha3⟩ : ∃ a3, a2.alloc (.cells #[.slice none 0 0] 35) = a3 := ⟨_, rfl⟩
        obtain ⟨gw, hgw⟩ : ∃ gw, a2.heap.size = gw := ⟨_, rfl⟩
        have hn12 : New a1 a2 := by rw [← ha2]; exact (Chg.refl _ a1).alloc _
        have hn23 : New a2 a3 := by rw [← ha3]; exact (Chg.refl _ a2).alloc _
        have hn3 : New wr a3 := (K1.out.2.trans hn12 (fun _ _ h => h)).trans hn23 (fun _ _ h => h)
        have hbx2 : (⟨gb, sb, Ab, nb, cb, z⟩ : Bi).sat a2 := by rw [← ha2, ← hgb]; exact bi_box K1.out.1
        have hbx3 : (⟨gb, sb, Ab, nb, cb, z⟩ : Bi).sat a3 := Bi.new hbx2 hn23
        have hwr3 : WrV a3 gw none [] := by rw [← ha3, ← hgw]; exact WrV.made a2
        have hgbw : gb < gw := by rw [← hgw]; exact hbx2.1.lt
        have hwrb : wr.heap.size ≤ gb := by rw [← hgb]; exact K1.out.2.size
        have hgwl : gw < a3.heap.size := by rw [← ha3, World.size_alloc, hgw]; exact Nat.lt_succ_self _
        have HG := Lib.hid (And.intro hgbw hwrb)
        have hdi : done ≤ i := HJ.out.2.1.le
        have HN3 := Lib.hid hn3
        have HX3 := Lib.hid hbx3
        have HW3 := Lib.hid hwr3
        have hb0 := hbx3.1.cell 0 (u := .bool sb) rfl
        have hb1 := hbx3.1.cell 1 (u := .slice Ab nb cb) rfl
        have hbl := hbx3.1.lt
        clear hn12 hn23 hn3 hbx2 hbx3 hwr3 K1 hgbw hwrb
        go_wp2_with fail
        refine (wstring_any _ z a3 HX3.out.2 (HPT.out.new (HJ.out.1.was.trans HN3.out (fun _ _ h => h))) HZ.out.2.2.2.2.2.1.p9).mono ?_
        rintro e a4 ⟨rfl, hn4⟩
        obtain ⟨tx, htx⟩ : ∃ tx, Txt.text z = tx := ⟨_, rfl⟩
        have htl : tx.length ≤ 40 := htx ▸ HZ.out.2.2.2.2.2.1.text
        have HTX := Lib.hid htx
        have HN4 := Lib.hid (HN3.out.trans hn4 (fun _ _ h => h) : New wr a4)
        have HX4 := Lib.hid (Bi.new HX3.out hn4)
        have HW4 := Lib.hid (HW3.out.new hn4)
        rw [htx]
        clear htx hn4 HX3 HW3 HN3 hb0 hb1 hbl
        go_wp2_with fail
        refine (wvText_any gw none [] (St tx) a4 (by rw [St_size]; omega) HW4.out (by simp)).mono ?_
        rintro e a5 ⟨rfl, bo5, hw5', hc5, hb5, _⟩
        have hbo5 : ∀ k, bo5 = some k → gw ≤ k := fun k hk => by
          rcases hb5 with e | ⟨k', e, h1⟩
          · rw [e] at hk; cases hk
          · rw [e] at hk; injection hk with hk; obtain ⟨_, _, _, q1, _⟩ := HW4.out; have := q1.lt; omega
        have HN5 := Lib.hid (HN4.out.trans hc5 (fun k hk e => by
          rcases e with e | e
          · have := HG.out; omega
          · cases e) : New wr a5)
        have HX5 := Lib.hid (Bi.keep HX4.out hc5 (fun e => by
          rcases e with e | e
          · have := HG.out.1; dsimp only at e; omega
          · cases e) HW4.out.no32)
        have HW5 := Lib.hid (show WrV a5 gw bo5 (recI z) from by rw [List.nil_append, St_size] at hw5'; unfold recI; rw [HTX.out]; exact hw5')
        clear hw5' hc5 hb5 hbo5 HX4 HW4 HN4
        go_wp2_with fail
        obtain ⟨rl, hrl⟩ : ∃ rl, (recI z).length = rl := ⟨_, rfl⟩
        have hrl31 : rl ≤ 31 := hrl ▸ recI_len hzr
        have hdone := wvDone_any gw bo5 (recI z) a5 HW5.out (by omega)
        rw [hrl] at hdone
        refine hdone.mono ?_
        clear hdone
        rintro e a6 ⟨A6, c6, rfl, ho6, hn6⟩
        have HN6 := Lib.hid (HN5.out.trans hn6 (fun _ _ h => h) : New wr a6)
        have HX6 := Lib.hid (Bi.new HX5.out hn6)
        have HAP := Lib.hid ((HJ.out.1.new HN6.out).japp HJ.out.2.1 (by rw [HKL.out]; exact hlt) (by rw [HKL.out]; exact hK6) HB.out HZ.out.2.2.2.1 A6 c6 (by rw [hrl]; exact Rd.of_own ho6) (fun k hk => (own_blk_le ho6 hk).2))
        rw [hrl] at HAP
        clear ho6 hn6 HX5 HW5 HN5 hrl
        go_wp2_with fail
        refine HAP.out.mono ?_
        clear HAP
        rintro e a7 ⟨cd, rfl, U7, s7, done7, tried7, dn7, hj7, hd7, hs7, hcd⟩
        have hX7 := Bi.keep HX6.out hs7.chg (fun hu => by have q := (HJ.out.1.lt hu).1; dsimp only at q; have := HG.out.2; omega) (HJ.out.1.new HN6.out).no32
        have hrow7 := (HJ.out.2.2.1.new HN6.out).keep hs7.chg HJ.out.2.2.2.1 (HJ.out.1.new HN6.out).no32
        have hug7 : ¬ U7 gr := fun hu => by
          rcases hs7.own gr hu with e | e
          · exact HJ.out.2.2.2.1 e
          · have := HJ.out.2.2.1.lt; have := HN6.out.size; omega
        have hgr7 : gr < gb := Nat.lt_of_lt_of_le HJ.out.2.2.1.lt HG.out.2
        have HS7 := Lib.hid (And.intro hj7 (And.intro hd7 (And.intro hrow7 (And.intro hug7 (And.intro hX7 hgr7)))))
        have HWG := Lib.hid HJ.out.2.2.2.2
        obtain ⟨v0, v1⟩ : a7.cell? ⟨gb, 0, none⟩ = some (.bool sb) ∧ a7.cell? ⟨gb, 1, none⟩ = some (.slice Ab nb cb) := ⟨hX7.1.cell 0 rfl, hX7.1.cell 1 rfl⟩
        have vl : gb < a7.heap.size := hX7.1.lt
        obtain ⟨sr, Ar2, nr, cr, q0, q1, q2⟩ := hrow7.at_ (pss_at L (Nat.le_refl i))
        have HQ2 := Lib.hid q2
        have hgrl := hrow7.lt
        clear hj7 hd7 hs7 hX7 hrow7 hug7 hgr7 q2 HX6 HN6 HJ hcu
        have HSK := Lib.hid (show ∀ W, New a7 W → W.cell? ⟨gr, i * 2, none⟩ = some (.bool sr) ∧ W.cell? ⟨gr, i * 2 + 1, none⟩ = some (.slice Ar2 nr cr) ∧ W.cell? ⟨gb, 0, none⟩ = some (.bool sb) ∧ W.cell? ⟨gb, 1, none⟩ = some (.slice Ab nb cb) from fun W h => ⟨h.cell q0 (fun h => h), h.cell q1 (fun h => h), h.cell v0 (fun h => h), h.cell v1 (fun h => h)⟩)
        have HADD := Lib.hid (show ∀ W, New a7 W → Calls Tryz.prog 29 #[.agg #[.bool sr, .slice Ar2 nr cr], .agg #[.bool sb, .slice Ab nb cb]] W fun e w' => ∃ s A n c, e = .returned (.tuple #[.agg #[.bool s, .slice A n c], .int .i64 0]) ∧ Hid (WI w' (.agg #[.bool s, .slice A n c]) (ps L i + z) ∧ New W w') from fun W h => wadd_s W _ _ _ _ (HQ2.out.new h) (HS7.out.2.2.2.2.1.2.new h) HZ.out.2.2.2.2.1 HZ.out.2.2.2.2.2.1 HZ.out.2.2.2.2.2.2)
        rcases hcd with ⟨rfl, rfl⟩ | ⟨rfl, rfl⟩
        · as_aux_lemma =>
            have hil : (i : Int) < (i : Int) + 1 := by omega
            go_upto_region 18 with fail
            go_cut [16, 17] from 49 to 87 (fun v e wx => e = .int .i64 0 ∧ Hid (Box1 a7 v (ps L i + z) wx))
            case first =>
              refine wp_region_held_drew (S := fun w' => w'.cell? ⟨gr, i * 2, none⟩ = some (.bool sr) ∧ w'.cell? ⟨gr, i * 2 + 1, none⟩ = some (.slice Ar2 nr cr) ∧ w'.cell? ⟨gb, 0, none⟩ = some (.bool sb) ∧ w'.cell? ⟨gb, 1, none⟩ = some (.slice Ab nb cb)) (by kernel_rfl) (HSK.out _ ((Chg.refl _ a7).drew)) (fun hHeld => ?_)
              obtain ⟨wd0, hwd0⟩ : ∃ x, a7.drew = x := ⟨_, rfl⟩
              have hB0 : New a7 wd0 := by rw [← hwd0]; exact (Chg.refl _ a7).drew
              rw [hwd0] at hHeld ⊢
              clear hwd0
              refine heldW (i := 0) (v := ?v5001) rfl (by kernel_rfl) (by kernel_rfl) (by kernel_rfl) (fun _ _ _ h => h) (by rfl) ?hy5001 hHeld ?rest5001
              case hy5001 => (intro w hSw; (try dsimp only at hSw); go_simp; try with_reducible rfl)
              simp only [Act.put, List.setIfInBounds_toArray, List.set_cons_zero, List.set_cons_succ]
              refine heldW (i := 1) (v := ?v5002) rfl (by kernel_rfl) (by kernel_rfl) (by kernel_rfl) (fun _ _ _ h => h) (by rfl) ?hy5002 hHeld ?rest5002
              case hy5002 => (intro w hSw; (try dsimp only at hSw); go_simp; try with_reducible rfl)
              simp only [Act.put, List.setIfInBounds_toArray, List.set_cons_zero, List.set_cons_succ]
              refine heldW (i := 2) (v := ?v5003) rfl (by kernel_rfl) (by kernel_rfl) (by kernel_rfl) (fun _ _ _ h => h) (by rfl) ?hy5003 hHeld ?rest5003
              case hy5003 => (intro w hSw; (try dsimp only at hSw); go_simp; try with_reducible rfl)
              simp only [Act.put, List.setIfInBounds_toArray, List.set_cons_zero, List.set_cons_succ]
              refine heldW (i := 3) (v := ?v5004) rfl (by kernel_rfl) (by kernel_rfl) (by kernel_rfl) (fun _ _ _ h => h) (by rfl) ?hy5004 hHeld ?rest5004
              case hy5004 => (intro w hSw; (try dsimp only at hSw); go_simp; try with_reducible rfl)
              simp only [Act.put, List.setIfInBounds_toArray, List.set_cons_zero, List.set_cons_succ]
              refine heldW (i := 4) (v := ?v5005) rfl (by kernel_rfl) (by kernel_rfl) (by kernel_rfl) (fun _ _ _ h => h) (by rfl) ?hy5005 hHeld ?rest5005
              case hy5005 => (intro w hSw; (try dsimp only at hSw); go_simp; try with_reducible rfl)
              simp only [Act.put, List.setIfInBounds_toArray, List.set_cons_zero, List.set_cons_succ]
              refine wpAnyH_ready (rs := [5, 9]) (by kernel_rfl) (by simp) (AllReadyH.cons rfl (fun K hK => ?_) (AllReadyH.cons rfl (fun K hK => ?_) AllReadyH.nil))
              · (try rw [if_pos (by rfl)])
                go_simp
                refine (HADD.out _ hB0).mono ?_
                rintro e wc5006 ⟨sp, Ap, np, cpp, rfl, K5006⟩
                have hB5007 : New a7 wc5006 := hB0.trans K5006.out.2 (fun _ _ h => h)
                (try go_wp2_with fail)
                refine hK.out _ _ (HSK.out _ hB5007) (fun hHeld2 => ?_)
                clear hK K hHeld
                have hHeld := hHeld2
                clear hHeld2
                (try simp only [Act.put, List.setIfInBounds_toArray, List.set_cons_zero, List.set_cons_succ])
                refine heldW (i := 6) (v := ?v5008) rfl (by kernel_rfl) (by kernel_rfl) (by kernel_rfl) (fun _ _ _ h => h) (by rfl) ?hy5008 hHeld ?rest5008
                case hy5008 => (intro w hSw; (try dsimp only at hSw); go_simp; try with_reducible rfl)
                simp only [Act.put, List.setIfInBounds_toArray, List.set_cons_zero, List.set_cons_succ]
                refine heldW (i := 7) (v := ?v5009) rfl (by kernel_rfl) (by kernel_rfl) (by kernel_rfl) (fun _ _ _ h => h) (by rfl) ?hy5009 hHeld ?rest5009
                case hy5009 => (intro w hSw; (try dsimp only at hSw); go_simp; try with_reducible rfl)
                simp only [Act.put, List.setIfInBounds_toArray, List.set_cons_zero, List.set_cons_succ]
                refine heldW (i := 8) (v := ?v5010) rfl (by kernel_rfl) (by kernel_rfl) (by kernel_rfl) (fun _ _ _ h => h) (by rfl) ?hy5010 hHeld ?rest5010
                case hy5010 => (intro w hSw; (try dsimp only at hSw); go_simp; try with_reducible rfl)
                simp only [Act.put, List.setIfInBounds_toArray, List.set_cons_zero, List.set_cons_succ]
                refine heldC (i := 9) rfl (by kernel_rfl) (by rfl) (fun K hK => ?_)
                go_simp
                obtain ⟨wz5011, hw5011⟩ : ∃ x, wc5006.alloc (.cells #[.bool false, .slice none 0 0] 29) = x := ⟨_, rfl⟩
                obtain ⟨bz5011, hb5011⟩ : ∃ x, wc5006.heap.size = x := ⟨_, rfl⟩
                have kz5011 : Blk wz5011 bz5011 29 #[.bool false, .slice none 0 0] := by rw [← hw5011, ← hb5011]; exact Blk.new _ _ _
                have nz5011 : New wc5006 wz5011 := by rw [← hw5011]; exact (Chg.refl _ wc5006).alloc _
                have lz5011 : a7.heap.size ≤ bz5011 := by rw [← hb5011]; exact (hB5007).size
                rw [hw5011, hb5011]
                clear hw5011 hb5011
                have hB5012 : New a7 wz5011 := hB5007.trans nz5011 (fun _ _ h => h)
                have vp5012 := K5006.out.1.new nz5011
                refine hK.out _ _ (HSK.out _ hB5012) (fun hHeld2 => ?_)
                clear hK K hHeld
                have hHeld := hHeld2
                clear hHeld2
                (try simp only [Act.put, List.setIfInBounds_toArray, List.set_cons_zero, List.set_cons_succ])
                refine wpAnyH_ready (rs := [10]) (by kernel_rfl) (by simp) (AllReadyH.cons rfl (fun K hK => ?_) AllReadyH.nil)
                (try rw [if_pos (by rfl)])
                have c0_5013 := kz5011.cell 0 (u := .bool false) rfl
                have c1_5013 := kz5011.cell 1 (u := .slice none 0 0) rfl
                have f0_5013 := kz5011.frozen 0
                have f1_5013 := kz5011.frozen 1
                have l_5013 := kz5011.lt
                go_simp
                obtain ⟨ws5013, hw5013⟩ : ∃ x, (wz5011.setCell ⟨bz5011, 0, none⟩ (.bool sp)).setCell ⟨bz5011, 1, none⟩ (.slice Ap np cpp) = x := ⟨_, rfl⟩
                have ch5013 : Chg (fun k => k = bz5011) wz5011 ws5013 := by rw [← hw5013]; exact Chg.at2 _ _ _ _
                have kb5013 : Blk ws5013 bz5011 29 #[.bool sp, .slice Ap np cpp] := by rw [← hw5013]; exact kz5011.set2 _ _
                rw [hw5013]
                clear hw5013 c0_5013 c1_5013 f0_5013 f1_5013 l_5013
                have hB5013 : New a7 ws5013 := hB5012.trans ch5013 (fun k hk e => by have := lz5011; omega)
                have vp5013 := vp5012.store kz5011 (fun k z h => by simp at h) ch5013
                refine hK.out _ _ (HSK.out _ hB5013) (fun hHeld2 => ?_)
                clear hK K hHeld
                have hHeld := hHeld2
                clear hHeld2
                (try simp only [Act.put, List.setIfInBounds_toArray, List.set_cons_zero, List.set_cons_succ])
                refine heldW (i := 11) (v := ?v5014) rfl (by kernel_rfl) (by kernel_rfl) (by kernel_rfl) (fun _ _ _ h => h) (by rfl) ?hy5014 hHeld ?rest5014
                case hy5014 => (intro w hSw; (try dsimp only at hSw); go_simp; try with_reducible rfl)
                simp only [Act.put, List.setIfInBounds_toArray, List.set_cons_zero, List.set_cons_succ]
                refine wpAnyH_done (by kernel_rfl) ?_ _
                go_wp2_with fail
                go_meet
                exact ⟨rfl, Lib.hid ⟨_, _, _, _, _, rfl, kb5013, vp5013, hB5013, lz5011⟩⟩
              · (try rw [if_pos (by rfl)])
                go_simp
                obtain ⟨wz5015, hw5015⟩ : ∃ x, wd0.alloc (.cells #[.bool false, .slice none 0 0] 29) = x := ⟨_, rfl⟩
                obtain ⟨bz5015, hb5015⟩ : ∃ x, wd0.heap.size = x := ⟨_, rfl⟩
                have kz5015 : Blk wz5015 bz5015 29 #[.bool false, .slice none 0 0] := by rw [← hw5015, ← hb5015]; exact Blk.new _ _ _
                have nz5015 : New wd0 wz5015 := by rw [← hw5015]; exact (Chg.refl _ wd0).alloc _
                have lz5015 : a7.heap.size ≤ bz5015 := by rw [← hb5015]; exact (hB0).size
                rw [hw5015, hb5015]
                clear hw5015 hb5015
                have hB5016 : New a7 wz5015 := hB0.trans nz5015 (fun _ _ h => h)
                refine hK.out _ _ (HSK.out _ hB5016) (fun hHeld2 => ?_)
                clear hK K hHeld
                have hHeld := hHeld2
                clear hHeld2
                (try simp only [Act.put, List.setIfInBounds_toArray, List.set_cons_zero, List.set_cons_succ])
                refine heldC (i := 5) rfl (by kernel_rfl) (by rfl) (fun K hK => ?_)
                go_simp
                refine (HADD.out _ hB5016).mono ?_
                rintro e wc5017 ⟨sp, Ap, np, cpp, rfl, K5017⟩
                have hB5018 : New a7 wc5017 := hB5016.trans K5017.out.2 (fun _ _ h => h)
                have kp5018 := kz5015.chg K5017.out.2 (fun h => h)
                (try go_wp2_with fail)
                refine hK.out _ _ (HSK.out _ hB5018) (fun hHeld2 => ?_)
                clear hK K hHeld
                have hHeld := hHeld2
                clear hHeld2
                (try simp only [Act.put, List.setIfInBounds_toArray, List.set_cons_zero, List.set_cons_succ])
                refine heldW (i := 6) (v := ?v5019) rfl (by kernel_rfl) (by kernel_rfl) (by kernel_rfl) (fun _ _ _ h => h) (by rfl) ?hy5019 hHeld ?rest5019
                case hy5019 => (intro w hSw; (try dsimp only at hSw); go_simp; try with_reducible rfl)
                simp only [Act.put, List.setIfInBounds_toArray, List.set_cons_zero, List.set_cons_succ]
                refine heldW (i := 7) (v := ?v5020) rfl (by kernel_rfl) (by kernel_rfl) (by kernel_rfl) (fun _ _ _ h => h) (by rfl) ?hy5020 hHeld ?rest5020
                case hy5020 => (intro w hSw; (try dsimp only at hSw); go_simp; try with_reducible rfl)
                simp only [Act.put, List.setIfInBounds_toArray, List.set_cons_zero, List.set_cons_succ]
                refine heldW (i := 8) (v := ?v5021) rfl (by kernel_rfl) (by kernel_rfl) (by kernel_rfl) (fun _ _ _ h => h) (by rfl) ?hy5021 hHeld ?rest5021
                case hy5021 => (intro w hSw; (try dsimp only at hSw); go_simp; try with_reducible rfl)
                simp only [Act.put, List.setIfInBounds_toArray, List.set_cons_zero, List.set_cons_succ]
                refine wpAnyH_ready (rs := [10]) (by kernel_rfl) (by simp) (AllReadyH.cons rfl (fun K hK => ?_) AllReadyH.nil)
                (try rw [if_pos (by rfl)])
                have c0_5022 := kp5018.cell 0 (u := .bool false) rfl
                have c1_5022 := kp5018.cell 1 (u := .slice none 0 0) rfl
                have f0_5022 := kp5018.frozen 0
                have f1_5022 := kp5018.frozen 1
                have l_5022 := kp5018.lt
                go_simp
                obtain ⟨ws5022, hw5022⟩ : ∃ x, (wc5017.setCell ⟨bz5015, 0, none⟩ (.bool sp)).setCell ⟨bz5015, 1, none⟩ (.slice Ap np cpp) = x := ⟨_, rfl⟩
                have ch5022 : Chg (fun k => k = bz5015) wc5017 ws5022 := by rw [← hw5022]; exact Chg.at2 _ _ _ _
                have kb5022 : Blk ws5022 bz5015 29 #[.bool sp, .slice Ap np cpp] := by rw [← hw5022]; exact kp5018.set2 _ _
                rw [hw5022]
                clear hw5022 c0_5022 c1_5022 f0_5022 f1_5022 l_5022
                have hB5022 : New a7 ws5022 := hB5018.trans ch5022 (fun k hk e => by have := lz5015; omega)
                have vp5022 := K5017.out.1.store kp5018 (fun k z h => by simp at h) ch5022
                refine hK.out _ _ (HSK.out _ hB5022) (fun hHeld2 => ?_)
                clear hK K hHeld
                have hHeld := hHeld2
                clear hHeld2
                (try simp only [Act.put, List.setIfInBounds_toArray, List.set_cons_zero, List.set_cons_succ])
                refine heldW (i := 11) (v := ?v5023) rfl (by kernel_rfl) (by kernel_rfl) (by kernel_rfl) (fun _ _ _ h => h) (by rfl) ?hy5023 hHeld ?rest5023
                case hy5023 => (intro w hSw; (try dsimp only at hSw); go_simp; try with_reducible rfl)
                simp only [Act.put, List.setIfInBounds_toArray, List.set_cons_zero, List.set_cons_succ]
                refine wpAnyH_done (by kernel_rfl) ?_ _
                go_wp2_with fail
                go_meet
                exact ⟨rfl, Lib.hid ⟨_, _, _, _, _, rfl, kb5022, vp5022, hB5022, lz5015⟩⟩
            case rest =>
              obtain ⟨rfl, hbx⟩ := hcut
              obtain ⟨gs, ss, As, ns, cs, rfl, hbs, hvs, hns, hlo⟩ := hbx.out
              have b0 := hbs.cell 0 (u := .bool ss) rfl
              have b1 := hbs.cell 1 (u := .slice As ns cs) rfl
              have bl := hbs.lt
              have hlit2 := lit_w1 (s := ss) (A := As) (m := ns) (c := cs) wc
              obtain ⟨wd, hwd⟩ : ∃ wd, wc.alloc (.cells #[.bool ss, .slice As ns cs] 29) = wd := ⟨_, rfl⟩
              obtain ⟨gd, hgd⟩ : ∃ gd, wc.heap.size = gd := ⟨_, rfl⟩
              have hnd : New wc wd := by rw [← hwd]; exact (Chg.refl _ wc).alloc _
              have hbd : Blk wd gd 29 #[.bool ss, .slice As ns cs] := by rw [← hwd, ← hgd]; exact Blk.new _ _ _
              have hn7 : New a7 wd := hns.trans hnd (fun _ _ h => h)
              obtain ⟨g', cp', wf, happ, hrow', hcf, hg'⟩ := (HS7.out.2.2.1.new hn7).app hbd (hvs.new hnd) (by omega)
              have HEND := Lib.hid (show JLoop w g (.pointer (some ⟨gl, 0, none⟩)) L (i + 1) _ g' cp' wf from by
                have hgu : ∀ k, U7 k → ¬ k = gr := fun k hk e => HS7.out.2.2.2.1 (e ▸ hk)
                refine ⟨U7, s7, tried7, dn7, (HS7.out.1.new hn7).chg hcf (fun k e => by rw [e]; exact HWG.out) hgu, HS7.out.2.1, by rw [HZ.out.2.2.1]; exact hrow', fun hu => ?_, ?_⟩
                · rcases hg' with e | e
                  · exact HS7.out.2.2.2.1 (e ▸ hu)
                  · have := (HS7.out.1.lt hu).1; have := hn7.size; omega
                · rcases hg' with e | e
                  · rw [e]; exact HWG.out
                  · have := HS7.out.1.was.size; have := hn7.size; omega)
              rw [hwd, hgd] at hlit2
              clear hbx hbs hvs hns hlo hnd hbd hn7 hrow' hcf hg' HS7 HSK HADD HQ2
              go_wp2_with (at_builtin; refine wpList_appE rfl _ _ _ rfl rfl rfl happ ?_)
              exact ⟨⟨i + 1, _, g', cp', by go_num, by go_num, rfl, by omega, HEND⟩, by simp [intOf]; omega⟩
        · as_aux_lemma =>
            have hil : (i : Int) < (i : Int) + 1 := by omega
            go_upto_region 18 with fail
            go_cut [16, 17] from 49 to 87 (fun v e wx => e = .int .i64 0 ∧ Hid (Box1 a7 v (ps L i + z) wx))
            case first =>
              refine wp_region_held_drew (S := fun w' => w'.cell? ⟨gr, i * 2, none⟩ = some (.bool sr) ∧ w'.cell? ⟨gr, i * 2 + 1, none⟩ = some (.slice Ar2 nr cr) ∧ w'.cell? ⟨gb, 0, none⟩ = some (.bool sb) ∧ w'.cell? ⟨gb, 1, none⟩ = some (.slice Ab nb cb)) (by kernel_rfl) (HSK.out _ ((Chg.refl _ a7).drew)) (fun hHeld => ?_)
              obtain ⟨wd0, hwd0⟩ : ∃ x, a7.drew = x := ⟨_, rfl⟩
              have hB0 : New a7 wd0 := by rw [← hwd0]; exact (Chg.refl _ a7).drew
              rw [hwd0] at hHeld ⊢
              clear hwd0
              refine heldW (i := 0) (v := ?v6001) rfl (by kernel_rfl) (by kernel_rfl) (by kernel_rfl) (fun _ _ _ h => h) (by rfl) ?hy6001 hHeld ?rest6001
              case hy6001 => (intro w hSw; (try dsimp only at hSw); go_simp; try with_reducible rfl)
              simp only [Act.put, List.setIfInBounds_toArray, List.set_cons_zero, List.set_cons_succ]
              refine heldW (i := 1) (v := ?v6002) rfl (by kernel_rfl) (by kernel_rfl) (by kernel_rfl) (fun _ _ _ h => h) (by rfl) ?hy6002 hHeld ?rest6002
              case hy6002 => (intro w hSw; (try dsimp only at hSw); go_simp; try with_reducible rfl)
              simp only [Act.put, List.setIfInBounds_toArray, List.set_cons_zero, List.set_cons_succ]
              refine heldW (i := 2) (v := ?v6003) rfl (by kernel_rfl) (by kernel_rfl) (by kernel_rfl) (fun _ _ _ h => h) (by rfl) ?hy6003 hHeld ?rest6003
              case hy6003 => (intro w hSw; (try dsimp only at hSw); go_simp; try with_reducible rfl)
              simp only [Act.put, List.setIfInBounds_toArray, List.set_cons_zero, List.set_cons_succ]
              refine heldW (i := 3) (v := ?v6004) rfl (by kernel_rfl) (by kernel_rfl) (by kernel_rfl) (fun _ _ _ h => h) (by rfl) ?hy6004 hHeld ?rest6004
              case hy6004 => (intro w hSw; (try dsimp only at hSw); go_simp; try with_reducible rfl)
              simp only [Act.put, List.setIfInBounds_toArray, List.set_cons_zero, List.set_cons_succ]
              refine heldW (i := 4) (v := ?v6005) rfl (by kernel_rfl) (by kernel_rfl) (by kernel_rfl) (fun _ _ _ h => h) (by rfl) ?hy6005 hHeld ?rest6005
              case hy6005 => (intro w hSw; (try dsimp only at hSw); go_simp; try with_reducible rfl)
              simp only [Act.put, List.setIfInBounds_toArray, List.set_cons_zero, List.set_cons_succ]
              refine wpAnyH_ready (rs := [5, 9]) (by kernel_rfl) (by simp) (AllReadyH.cons rfl (fun K hK => ?_) (AllReadyH.cons rfl (fun K hK => ?_) AllReadyH.nil))
              · (try rw [if_pos (by rfl)])
                go_simp
                refine (HADD.out _ hB0).mono ?_
                rintro e wc6006 ⟨sp, Ap, np, cpp, rfl, K6006⟩
                have hB6007 : New a7 wc6006 := hB0.trans K6006.out.2 (fun _ _ h => h)
                (try go_wp2_with fail)
                refine hK.out _ _ (HSK.out _ hB6007) (fun hHeld2 => ?_)
                clear hK K hHeld
                have hHeld := hHeld2
                clear hHeld2
                (try simp only [Act.put, List.setIfInBounds_toArray, List.set_cons_zero, List.set_cons_succ])
                refine heldW (i := 6) (v := ?v6008) rfl (by kernel_rfl) (by kernel_rfl) (by kernel_rfl) (fun _ _ _ h => h) (by rfl) ?hy6008 hHeld ?rest6008
                case hy6008 => (intro w hSw; (try dsimp only at hSw); go_simp; try with_reducible rfl)
                simp only [Act.put, List.setIfInBounds_toArray, List.set_cons_zero, List.set_cons_succ]
                refine heldW (i := 7) (v := ?v6009) rfl (by kernel_rfl) (by kernel_rfl) (by kernel_rfl) (fun _ _ _ h => h) (by rfl) ?hy6009 hHeld ?rest6009
                case hy6009 => (intro w hSw; (try dsimp only at hSw); go_simp; try with_reducible rfl)
                simp only [Act.put, List.setIfInBounds_toArray, List.set_cons_zero, List.set_cons_succ]
                refine heldW (i := 8) (v := ?v6010) rfl (by kernel_rfl) (by kernel_rfl) (by kernel_rfl) (fun _ _ _ h => h) (by rfl) ?hy6010 hHeld ?rest6010
                case hy6010 => (intro w hSw; (try dsimp only at hSw); go_simp; try with_reducible rfl)
                simp only [Act.put, List.setIfInBounds_toArray, List.set_cons_zero, List.set_cons_succ]
                refine heldC (i := 9) rfl (by kernel_rfl) (by rfl) (fun K hK => ?_)
                go_simp
                obtain ⟨wz6011, hw6011⟩ : ∃ x, wc6006.alloc (.cells #[.bool false, .slice none 0 0] 29) = x := ⟨_, rfl⟩
                obtain ⟨bz6011, hb6011⟩ : ∃ x, wc6006.heap.size = x := ⟨_, rfl⟩
                have kz6011 : Blk wz6011 bz6011 29 #[.bool false, .slice none 0 0] := by rw [← hw6011, ← hb6011]; exact Blk.new _ _ _
                have nz6011 : New wc6006 wz6011 := by rw [← hw6011]; exact (Chg.refl _ wc6006).alloc _
                have lz6011 : a7.heap.size ≤ bz6011 := by rw [← hb6011]; exact (hB6007).size
                rw [hw6011, hb6011]
                clear hw6011 hb6011
                have hB6012 : New a7 wz6011 := hB6007.trans nz6011 (fun _ _ h => h)
                have vp6012 := K6006.out.1.new nz6011
                refine hK.out _ _ (HSK.out _ hB6012) (fun hHeld2 => ?_)
                clear hK K hHeld
                have hHeld := hHeld2
                clear hHeld2
                (try simp only [Act.put, List.setIfInBounds_toArray, List.set_cons_zero, List.set_cons_succ])
                refine wpAnyH_ready (rs := [10]) (by kernel_rfl) (by simp) (AllReadyH.cons rfl (fun K hK => ?_) AllReadyH.nil)
                (try rw [if_pos (by rfl)])
                have c0_6013 := kz6011.cell 0 (u := .bool false) rfl
                have c1_6013 := kz6011.cell 1 (u := .slice none 0 0) rfl
                have f0_6013 := kz6011.frozen 0
                have f1_6013 := kz6011.frozen 1
                have l_6013 := kz6011.lt
                go_simp
                obtain ⟨ws6013, hw6013⟩ : ∃ x, (wz6011.setCell ⟨bz6011, 0, none⟩ (.bool sp)).setCell ⟨bz6011, 1, none⟩ (.slice Ap np cpp) = x := ⟨_, rfl⟩
                have ch6013 : Chg (fun k => k = bz6011) wz6011 ws6013 := by rw [← hw6013]; exact Chg.at2 _ _ _ _
                have kb6013 : Blk ws6013 bz6011 29 #[.bool sp, .slice Ap np cpp] := by rw [← hw6013]; exact kz6011.set2 _ _
                rw [hw6013]
                clear hw6013 c0_6013 c1_6013 f0_6013 f1_6013 l_6013
                have hB6013 : New a7 ws6013 := hB6012.trans ch6013 (fun k hk e => by have := lz6011; omega)
                have vp6013 := vp6012.store kz6011 (fun k z h => by simp at h) ch6013
                refine hK.out _ _ (HSK.out _ hB6013) (fun hHeld2 => ?_)
                clear hK K hHeld
                have hHeld := hHeld2
                clear hHeld2
                (try simp only [Act.put, List.setIfInBounds_toArray, List.set_cons_zero, List.set_cons_succ])
                refine heldW (i := 11) (v := ?v6014) rfl (by kernel_rfl) (by kernel_rfl) (by kernel_rfl) (fun _ _ _ h => h) (by rfl) ?hy6014 hHeld ?rest6014
                case hy6014 => (intro w hSw; (try dsimp only at hSw); go_simp; try with_reducible rfl)
                simp only [Act.put, List.setIfInBounds_toArray, List.set_cons_zero, List.set_cons_succ]
                refine wpAnyH_done (by kernel_rfl) ?_ _
                go_wp2_with fail
                go_meet
                exact ⟨rfl, Lib.hid ⟨_, _, _, _, _, rfl, kb6013, vp6013, hB6013, lz6011⟩⟩
              · (try rw [if_pos (by rfl)])
                go_simp
                obtain ⟨wz6015, hw6015⟩ : ∃ x, wd0.alloc (.cells #[.bool false, .slice none 0 0] 29) = x := ⟨_, rfl⟩
                obtain ⟨bz6015, hb6015⟩ : ∃ x, wd0.heap.size = x := ⟨_, rfl⟩
                have kz6015 : Blk wz6015 bz6015 29 #[.bool false, .slice none 0 0] := by rw [← hw6015, ← hb6015]; exact Blk.new _ _ _
                have nz6015 : New wd0 wz6015 := by rw [← hw6015]; exact (Chg.refl _ wd0).alloc _
                have lz6015 : a7.heap.size ≤ bz6015 := by rw [← hb6015]; exact (hB0).size
                rw [hw6015, hb6015]
                clear hw6015 hb6015
                have hB6016 : New a7 wz6015 := hB0.trans nz6015 (fun _ _ h => h)
                refine hK.out _ _ (HSK.out _ hB6016) (fun hHeld2 => ?_)
                clear hK K hHeld
                have hHeld := hHeld2
                clear hHeld2
                (try simp only [Act.put, List.setIfInBounds_toArray, List.set_cons_zero, List.set_cons_succ])
                refine heldC (i := 5) rfl (by kernel_rfl) (by rfl) (fun K hK => ?_)
                go_simp
                refine (HADD.out _ hB6016).mono ?_
                rintro e wc6017 ⟨sp, Ap, np, cpp, rfl, K6017⟩
                have hB6018 : New a7 wc6017 := hB6016.trans K6017.out.2 (fun _ _ h => h)
                have kp6018 := kz6015.chg K6017.out.2 (fun h => h)
                (try go_wp2_with fail)
                refine hK.out _ _ (HSK.out _ hB6018) (fun hHeld2 => ?_)
                clear hK K hHeld
                have hHeld := hHeld2
                clear hHeld2
                (try simp only [Act.put, List.setIfInBounds_toArray, List.set_cons_zero, List.set_cons_succ])
                refine heldW (i := 6) (v := ?v6019) rfl (by kernel_rfl) (by kernel_rfl) (by kernel_rfl) (fun _ _ _ h => h) (by rfl) ?hy6019 hHeld ?rest6019
                case hy6019 => (intro w hSw; (try dsimp only at hSw); go_simp; try with_reducible rfl)
                simp only [Act.put, List.setIfInBounds_toArray, List.set_cons_zero, List.set_cons_succ]
                refine heldW (i := 7) (v := ?v6020) rfl (by kernel_rfl) (by kernel_rfl) (by kernel_rfl) (fun _ _ _ h => h) (by rfl) ?hy6020 hHeld ?rest6020
                case hy6020 => (intro w hSw; (try dsimp only at hSw); go_simp; try with_reducible rfl)
                simp only [Act.put, List.setIfInBounds_toArray, List.set_cons_zero, List.set_cons_succ]
                refine heldW (i := 8) (v := ?v6021) rfl (by kernel_rfl) (by kernel_rfl) (by kernel_rfl) (fun _ _ _ h => h) (by rfl) ?hy6021 hHeld ?rest6021
                case hy6021 => (intro w hSw; (try dsimp only at hSw); go_simp; try with_reducible rfl)
                simp only [Act.put, List.setIfInBounds_toArray, List.set_cons_zero, List.set_cons_succ]
                refine wpAnyH_ready (rs := [10]) (by kernel_rfl) (by simp) (AllReadyH.cons rfl (fun K hK => ?_) AllReadyH.nil)
                (try rw [if_pos (by rfl)])
                have c0_6022 := kp6018.cell 0 (u := .bool false) rfl
                have c1_6022 := kp6018.cell 1 (u := .slice none 0 0) rfl
                have f0_6022 := kp6018.frozen 0
                have f1_6022 := kp6018.frozen 1
                have l_6022 := kp6018.lt
                go_simp
                obtain ⟨ws6022, hw6022⟩ : ∃ x, (wc6017.setCell ⟨bz6015, 0, none⟩ (.bool sp)).setCell ⟨bz6015, 1, none⟩ (.slice Ap np cpp) = x := ⟨_, rfl⟩
                have ch6022 : Chg (fun k => k = bz6015) wc6017 ws6022 := by rw [← hw6022]; exact Chg.at2 _ _ _ _
                have kb6022 : Blk ws6022 bz6015 29 #[.bool sp, .slice Ap np cpp] := by rw [← hw6022]; exact kp6018.set2 _ _
                rw [hw6022]
                clear hw6022 c0_6022 c1_6022 f0_6022 f1_6022 l_6022
                have hB6022 : New a7 ws6022 := hB6018.trans ch6022 (fun k hk e => by have := lz6015; omega)
                have vp6022 := K6017.out.1.store kp6018 (fun k z h => by simp at h) ch6022
                refine hK.out _ _ (HSK.out _ hB6022) (fun hHeld2 => ?_)
                clear hK K hHeld
                have hHeld := hHeld2
                clear hHeld2
                (try simp only [Act.put, List.setIfInBounds_toArray, List.set_cons_zero, List.set_cons_succ])
                refine heldW (i := 11) (v := ?v6023) rfl (by kernel_rfl) (by kernel_rfl) (by kernel_rfl) (fun _ _ _ h => h) (by rfl) ?hy6023 hHeld ?rest6023
                case hy6023 => (intro w hSw; (try dsimp only at hSw); go_simp; try with_reducible rfl)
                simp only [Act.put, List.setIfInBounds_toArray, List.set_cons_zero, List.set_cons_succ]
                refine wpAnyH_done (by kernel_rfl) ?_ _
                go_wp2_with fail
                go_meet
                exact ⟨rfl, Lib.hid ⟨_, _, _, _, _, rfl, kb6022, vp6022, hB6022, lz6015⟩⟩
            case rest =>
              obtain ⟨rfl, hbx⟩ := hcut
              obtain ⟨gs, ss, As, ns, cs, rfl, hbs, hvs, hns, hlo⟩ := hbx.out
              have b0 := hbs.cell 0 (u := .bool ss) rfl
              have b1 := hbs.cell 1 (u := .slice As ns cs) rfl
              have bl := hbs.lt
              have hlit2 := lit_w1 (s := ss) (A := As) (m := ns) (c := cs) wc
              obtain ⟨wd, hwd⟩ : ∃ wd, wc.alloc (.cells #[.bool ss, .slice As ns cs] 29) = wd := ⟨_, rfl⟩
              obtain ⟨gd, hgd⟩ : ∃ gd, wc.heap.size = gd := ⟨_, rfl⟩
              have hnd : New wc wd := by rw [← hwd]; exact (Chg.refl _ wc).alloc _
              have hbd : Blk wd gd 29 #[.bool ss, .slice As ns cs] := by rw [← hwd, ← hgd]; exact Blk.new _ _ _
              have hn7 : New a7 wd := hns.trans hnd (fun _ _ h => h)
              obtain ⟨g', cp', wf, happ, hrow', hcf, hg'⟩ := (HS7.out.2.2.1.new hn7).app hbd (hvs.new hnd) (by omega)
              have HEND := Lib.hid (show JLoop w g (.pointer (some ⟨gl, 0, none⟩)) L (i + 1) _ g' cp' wf from by
                have hgu : ∀ k, U7 k → ¬ k = gr := fun k hk e => HS7.out.2.2.2.1 (e ▸ hk)
                refine ⟨U7, s7, tried7, dn7, (HS7.out.1.new hn7).chg hcf (fun k e => by rw [e]; exact HWG.out) hgu, HS7.out.2.1, by rw [HZ.out.2.2.1]; exact hrow', fun hu => ?_, ?_⟩
                · rcases hg' with e | e
                  · exact HS7.out.2.2.2.1 (e ▸ hu)
                  · have := (HS7.out.1.lt hu).1; have := hn7.size; omega
                · rcases hg' with e | e
                  · rw [e]; exact HWG.out
                  · have := HS7.out.1.was.size; have := hn7.size; omega)
              rw [hwd, hgd] at hlit2
              clear hbx hbs hvs hns hlo hnd hbd hn7 hrow' hcf hg' HS7 HSK HADD HQ2
              go_wp2_with (at_builtin; refine wpList_appE rfl _ _ _ rfl rfl rfl happ ?_)
              exact ⟨⟨i + 1, _, g', cp', by go_num, by go_num, rfl, by omega, HEND⟩, by simp [intOf]; omega⟩
      · obtain rfl : i = K := by omega
        have hdf : decide (i < i) = false := decide_eq_false hlt
        rw [hdf]
        obtain ⟨U, s, tried, dn, hj, hd, hrow, hug, hwg⟩ := hh.out
        have hdi : done ≤ i := hd.le
        have hfew := hd.few
        obtain ⟨s6, G, heo, hg1, hg2, hg3, hg4, _⟩ := (show Dr1 s (recsI L) (recsI L).length done tried dn from by rw [HKL.out]; exact hd).crash hj.wf (by rw [HKL.out]; exact hK6) HB.out [kp]
        rw [HKL.out] at hg3
        have HJ := Lib.hid hj
        have HROW := Lib.hid (And.intro hrow (And.intro hug hwg))
        have HEO := Lib.hid heo
        have HG4 := Lib.hid hg4
        clear hj hd hrow hug hwg hh heo hg4
        go_wp2_with fail
        obtain ⟨x1, hx1⟩ : ∃ x, wr.alloc (.cells #[.int .i64 kp] 3) = x := ⟨_, rfl⟩
        have hn1' : New wr x1 := by rw [← hx1]; exact (Chg.refl _ wr).alloc _
        have hrk : Rd x1 (some ⟨wr.heap.size, 0, none⟩) 1 (is [kp]) := by rw [← hx1]; exact Rd.one
        have hz1 : x1.heap.size = wr.heap.size + 1 := by rw [← hx1, World.size_alloc]
        rw [hx1]
        refine ((HJ.out.new hn1').crash (some ⟨wr.heap.size, 0, none⟩) 1 1 [kp] hrk (fun k hk => by
            have hk : wr.heap.size = k := by simpa [blk] using hk
            exact ⟨fun hu => by have := (HJ.out.lt hu).1; omega, by omega⟩) (by omega) (fun z hz => by rcases List.mem_singleton.1 hz with rfl; exact HKP.out) (-1) (by omega)).mono ?_
        rintro e x2 ⟨rfl, U2', hj2, hs2⟩
        have HJ2' := Lib.hid hj2
        have HROW2 := Lib.hid (show WRow x2 gr (i + 1) cp (pss L i) ∧ ¬ U2' gr from ⟨(HROW.out.1.new hn1').keep hs2.chg HROW.out.2.1 (HJ.out.new hn1').no32, fun hu => by
          rcases hs2.own gr hu with e | e
          · exact HROW.out.2.1 e
          · have := HROW.out.1.lt; omega⟩)
        have HWG := Lib.hid HROW.out.2.2
        clear hj2 hs2 hx1 hn1' hrk hz1 HJ HROW
        go_wp2_with fail
        refine (HJ2'.out.open_ 1).mono ?_
        rw [HEO.out]
        rintro e x3 ⟨p2, A3, nl, cl3, rfl, ⟨U3, hj3, hs3⟩, hrr⟩
        have hrr : RrG x3 x3.heap.size A3 nl G := hrr
        have hnl := hrr.len
        obtain ⟨B, hBs⟩ : ∃ B, x3.heap.size = B := ⟨_, rfl⟩
        rw [hBs] at hrr
        rw [hnl] at hg1 hg2 HG4
        have HRR := Lib.hid hrr
        have HROW3 := Lib.hid (HROW2.out.1.keep hs3.chg HROW2.out.2 HJ2'.out.no32)
        have HN3' := Lib.hid (show New w x3 ∧ w.heap.size ≤ B ∧ gr < B from ⟨hj3.was, by rw [← hBs]; exact hj3.was.size, by rw [← hBs]; exact HROW3.out.lt⟩)
        have HBS := Lib.hid hBs
        have hl1 : ¬ (nl : Int) < (done : Int) := by omega
        have hl2 : ¬ (done : Int) + 1 < (nl : Int) := by omega
        have hl3 : ¬ (i : Int) + 1 ≤ (nl : Int) := by omega
        have hd8 : (done : Int) ≤ 6 := by omega
        clear hj3 hs3 hrr hnl HROW2 HJ2' HEO hBs
        dsimp only
        go_wp2_with fail
        refine (wfrom_s 0 x3 (by omega)).mono ?_
        rintro e x4 ⟨st, At, nt, ct, rfl, K4⟩
        obtain ⟨x5, hx5⟩ : ∃ x5, x4.alloc (.cells #[.bool st, .slice At nt ct] 29) = x5 := ⟨_, rfl⟩
        obtain ⟨gt, hgt⟩ : ∃ gt, x4.heap.size = gt := ⟨_, rfl⟩
        have hn5 : New x4 x5 := by rw [← hx5]; exact (Chg.refl _ x4).alloc _
        have hb5 : Blk x5 gt 29 #[.bool st, .slice At nt ct] := by rw [← hx5, ← hgt]; exact Blk.new _ _ _
        have hn35 : New x3 x5 := K4.out.2.trans hn5 (fun _ _ h => h)
        have hBt : B ≤ gt := by rw [← HBS.out, ← hgt]; exact K4.out.2.size
        have HT := Lib.hid (show JTwo w B gt gr (i + 1) cp (pss L i) A3 nl G (ps L 0) x5 from ⟨HN3'.out.1.trans hn35 (fun _ _ h => h), HRR.out.new hn35, HROW3.out.new hn35, _, _, _, _, hb5, by rw [ps_zero]; exact K4.out.1.new hn5⟩)
        have hgtr : gt ≠ gr := by have := HN3'.out.2.2; omega
        have hwB := HN3'.out.2.1
        clear hn5 hb5 hn35 K4 HRR HROW3 HN3' HBS hg1 hg2
        go_wp2_with fail
        go_loopw [22] (fun v wl => ∃ (q : Nat), v = .int .i64 (q : Int) ∧ q ≤ nl ∧ Hid (JTwo w B gt gr (i + 1) cp (pss L i) A3 nl G (ps L q) wl)) (fun v _ => nl - (intOf v).toNat)
        case atStart => exact ⟨0, rfl, by omega, HT⟩
        case round =>
          obtain ⟨q, rfl, hqn, hh⟩ := hrel
          by_cases hlt2 : q < nl
          · have hlt3 : (q : Int) < (nl : Int) := by omega
            obtain ⟨z, hz⟩ : ∃ z, L[q]? = some z := ⟨_, List.getElem?_eq_getElem (by have := HLN.out; omega)⟩
            have hGq : G[q]? = some (recI z) := by rw [HG4.out, List.getElem?_take_of_lt hlt2]; exact recsI_at (by omega) hz
            have hzr := HL.out z (List.mem_of_getElem? hz)
            have HZ := Lib.hid (show ps L (q + 1) = ps L q + z ∧ Sm (ps L q) ∧ Sm z ∧ Sm (ps L q + z) from ⟨ps_succ hz, HPS.out q (by omega), Sm.int hzr, by rw [← ps_succ hz]; exact HPS.out (q + 1) (by omega)⟩)
            obtain ⟨ad, A', c', rfl, hcl, hrd⟩ := hh.out.rows.at_ hGq
            obtain ⟨rl, hrl⟩ : ∃ rl, (recI z).length = rl := ⟨_, rfl⟩
            have hrl31 : rl ≤ 31 := hrl ▸ recI_len hzr
            rw [hrl] at hcl hrd
            have HRD := Lib.hid hrd
            have hgtl : gt < wr.heap.size := by obtain ⟨_, _, _, _, q1, _⟩ := hh.out.box; exact q1.lt
            have hgrl := hh.out.row.lt
            clear hz hGq hrd
            go_wp2_with fail
            refine (read_any A' rl c' (recI z) wr HRD.out (by omega)).mono ?_
            rintro e y2 ⟨gx, bx, rfl, hr2, hn2, hgx, _⟩
            have HR2 := Lib.hid hr2
            have HT2 := Lib.hid (hh.out.step hn2)
            have HGX := Lib.hid (show B ≤ gx ∧ gx ≠ gt ∧ gx ≠ gr from ⟨by omega, by omega, by omega⟩)
            clear hr2 hn2 hgx HRD hgtl hgrl hcl
            go_wp2_with fail
            have htx := rText_any gx bx (recI z) 0 y2 HR2.out (by rw [hrl]; omega)
            rw [recI_raw HZ.out.2.2.1] at htx
            refine htx.mono ?_
            clear htx hrl
            rintro e y3 ⟨rfl, hr3, hc3⟩
            have HR3 := Lib.hid (show RdrAt y3 gx bx [] 0 from hr3)
            have HT3 := Lib.hid (HT2.out.far hc3 (fun k e => by rw [e]; exact HGX.out) hwB (fun k e => by rw [e]; exact (rdr_no32 HR2.out).1))
            clear hr3 hc3 HR2 HT2
            have hst : (⟨(Txt.text z).toArray⟩ : ByteArray) = St (Txt.text z) := rfl
            dsimp only
            rw [hst]
            clear hst
            go_wp2_with fail
            refine (wparse_s z HZ.out.2.2.1 y3).mono ?_
            rintro e y4 ⟨s1, A1', n1', c1', rfl, K1⟩
            obtain ⟨y5, hy5⟩ : ∃ y5, y4.alloc (.cells #[.bool s1, .slice A1' n1' c1'] 29) = y5 := ⟨_, rfl⟩
            obtain ⟨g1, hg1⟩ : ∃ g1, y4.heap.size = g1 := ⟨_, rfl⟩
            have hn5' : New y4 y5 := by rw [← hy5]; exact (Chg.refl _ y4).alloc _
            have hb5' : (⟨g1, s1, A1', n1', c1', z⟩ : Bi).sat y5 := by rw [← hy5, ← hg1]; exact bi_box K1.out.1
            have HX5 := Lib.hid hb5'
            have HT5 := Lib.hid ((HT3.out.step K1.out.2).step hn5')
            have HR5 := Lib.hid (HR3.out.chg (K1.out.2.trans hn5' (fun _ _ h => h) : New y3 y5) (fun h => h) (fun _ _ h => h))
            clear hn5' hb5' HT3 HR3 K1
            go_wp2_with fail
            refine (rEnd_any gx bx [] 0 y5 HR5.out).mono ?_
            rintro e y6 ⟨rfl, hy6⟩
            subst hy6
            rw [show endR [] 0 = 0 from rfl]
            obtain ⟨s0, A0, n0, c0, hb0, hv0⟩ := HT5.out.box
            have HV0 := Lib.hid hv0
            have b0 := hb0.cell 0 (u := .bool s0) rfl
            have b1 := hb0.cell 1 (u := .slice A0 n0 c0) rfl
            have bl := hb0.lt
            have d0 := HX5.out.1.cell 0 (u := .bool s1) rfl
            have d1 := HX5.out.1.cell 1 (u := .slice A1' n1' c1') rfl
            have dl := HX5.out.1.lt
            clear hb0 hv0 HR5
            dsimp only at d0 d1 dl
            go_wp2_with fail
            refine (wadd_s y5 _ _ _ _ HV0.out HX5.out.2 HZ.out.2.1 HZ.out.2.2.1 HZ.out.2.2.2).mono ?_
            rintro e y7 ⟨s2, A2, n2, c2, rfl, K2⟩
            obtain ⟨y8, hy8⟩ : ∃ y8, y7.alloc (.cells #[.bool s2, .slice A2 n2 c2] 29) = y8 := ⟨_, rfl⟩
            obtain ⟨g2, hg2'⟩ : ∃ g2, y7.heap.size = g2 := ⟨_, rfl⟩
            have hn8 : New y7 y8 := by rw [← hy8]; exact (Chg.refl _ y7).alloc _
            have hb8 : Blk y8 g2 29 #[.bool s2, .slice A2 n2 c2] := by rw [← hy8, ← hg2']; exact Blk.new _ _ _
            have hv8 := K2.out.1.new hn8
            have HT8 := Lib.hid ((HT5.out.step K2.out.2).step hn8)
            have HV8 := Lib.hid hv8
            have f0 := hb8.cell 0 (u := .bool s2) rfl
            have f1 := hb8.cell 1 (u := .slice A2 n2 c2) rfl
            have fl := hb8.lt
            clear b0 b1 bl d0 d1 dl hn8 hb8 hv8 K2 HT5 HX5 HV0
            obtain ⟨s0', A0', n0', c0', hb0, _⟩ := HT8.out.box
            have b0 := hb0.cell 0 (u := .bool s0') rfl
            have b1 := hb0.cell 1 (u := .slice A0' n0' c0') rfl
            have bl := hb0.lt
            have bf0 := hb0.frozen 0
            have bf1 := hb0.frozen 1
            have HEND := Lib.hid (show JTwo w B gt gr (i + 1) cp (pss L i) (some ad) nl G (ps L (q + 1)) ((y8.setCell ⟨gt, 0, none⟩ (.bool s2)).setCell ⟨gt, 1, none⟩ (.slice A2 n2 c2)) from by
              rw [HZ.out.1]
              exact HT8.out.put (Chg.at2 _ _ _ _) hBt hwB hgtr (hb0.set2 _ _) HV8.out)
            clear hb0 HT8 HV8
            go_wp2_with fail
            exact ⟨⟨q + 1, by go_num, by omega, HEND⟩, by simp [intOf]; omega⟩
          · obtain rfl : q = nl := by omega
            obtain ⟨s0, A0, n0, c0, hb0, hv0⟩ := hh.out.box
            have b0 := hb0.cell 0 (u := .bool s0) rfl
            have b1 := hb0.cell 1 (u := .slice A0 n0 c0) rfl
            have bl := hb0.lt
            obtain ⟨sr, Ar2, nr, cr, q0, q1, hq2⟩ := hh.out.row.at_ (pss_at L (i := i) (j := q) (by omega))
            have hgrl := hh.out.row.lt
            have hql : (q : Int) < (i : Int) + 1 := by omega
            have HSK := Lib.hid (show ∀ W, New wr W → W.cell? ⟨gt, 0, none⟩ = some (.bool s0) ∧ W.cell? ⟨gt, 1, none⟩ = some (.slice A0 n0 c0) ∧ W.cell? ⟨gr, q * 2, none⟩ = some (.bool sr) ∧ W.cell? ⟨gr, q * 2 + 1, none⟩ = some (.slice Ar2 nr cr) from fun W h => ⟨h.cell b0 (fun h => h), h.cell b1 (fun h => h), h.cell q0 (fun h => h), h.cell q1 (fun h => h)⟩)
            have HCMP := Lib.hid (show ∀ W, New wr W → Calls Tryz.prog 20 #[.agg #[.bool s0, .slice A0 n0 c0], .agg #[.bool sr, .slice Ar2 nr cr]] W fun e w' => e = .returned (.int .i64 0) ∧ New wr w' from fun W h => (compare_any _ _ _ _ W (hv0.new h) (hq2.new h)).mono fun e w' ⟨e1, e2⟩ => ⟨by rw [e1, cmpI_same], h.trans e2 (fun _ _ h => h)⟩)
            have HLIV := Lib.hid (show ∀ W, New wr W → Calls Tryz.prog 30 #[] W fun e w' => e = .returned (.bool true) ∧ New wr w' from fun W h => (lives_any W).mono fun e w' ⟨e1, e2⟩ => ⟨e1, h.trans e2 (fun _ _ h => h)⟩)
            have HNW := Lib.hid hh.out.new
            have hN0 : New wr wr := Chg.refl _ _
            have hN1 : New wr wr.drew := (Chg.refl _ _).drew
            clear hb0 hv0 hq2 hh
            go_upto_region 40 with fail
            go_region_held3 (fun w' => w'.cell? ⟨gt, 0, none⟩ = some (.bool s0) ∧ w'.cell? ⟨gt, 1, none⟩ = some (.slice A0 n0 c0) ∧ w'.cell? ⟨gr, q * 2, none⟩ = some (.bool sr) ∧ w'.cell? ⟨gr, q * 2 + 1, none⟩ = some (.slice Ar2 nr cr)) (first | exact HSK.out _ (by assumption))
              (first
              | (go_at_call 20; (with_reducible refine (HCMP.out _ ?_).mono ?_); (first | exact (Chg.refl _ _).drew | exact Chg.refl _ _); rintro e z1 ⟨rfl, hz1⟩)
              | (go_at_call 30; (with_reducible refine (HLIV.out _ (by assumption)).mono ?_); rintro e z2 ⟨rfl, hz2⟩))
            go_wp2
            go_ret
            exact ⟨rfl, HNW.out.trans hz2 (fun _ _ h => h)⟩
end Go.Proofs.YtblcaeoeeepajaaGreatDoor
