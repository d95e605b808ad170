/- The parts TextC, TextD, TextE, RefI, RefJ, RefU, TextL, PureParse, TextM, SmallR, TextK, TextJ, FracTy, FracOps, FrB, Ff1, Ff2 of the proof, in one text. -/
import Derived.Deep.RegionHeld3
import Derived.Deep.CutRange
import Derived.Deep.LoopGhost
import Derived.Test.YtbocpkjajocpiaaGreatDoorB3
set_option linter.unusedSimpArgs false
set_option linter.unusedVariables false

namespace Go.Txt
set_option linter.unusedVariables false
theorem decFrom_val {l : List UInt8} (h : AllDig l) : ∀ a, Lib.decFrom a l = some (a * 10 ^ l.length + decVal l) := by
  induction l using snocRec with
  | nil => intro a; simp [Lib.decFrom, decVal_nil]
  | snoc l c ih =>
    intro a
    have hc := h.right c (by simp)
    have h1 := ih h.left a
    have h2 := Lib.decFrom_take (l ++ [c]) l.length a (a * 10 ^ l.length + decVal l) c (c.toNat - 48) (by rw [List.take_left' rfl]; exact h1) (by simp) (by unfold Lib.digitVal; unfold isDig at hc; rw [if_pos hc])
    rw [List.take_of_length_le (by simp)] at h2
    rw [h2, decVal_snoc, List.length_append, List.length_singleton, Nat.pow_succ]
    congr 1
    rw [Nat.add_mul, Nat.mul_assoc, Nat.add_assoc]
theorem atoi_val {l : List UInt8} (h : AllDig l) (hn : l ≠ []) : Lib.atoi l = some (decVal l : Int) := by
  cases l with
  | nil => exact absurd rfl hn
  | cons c t =>
    have hc := h c (by simp)
    unfold isDig at hc
    have h1 : (c == 45) = false := by simp; intro e; subst e; simp at hc
    have h2 : (c == 43) = false := by simp; intro e; subst e; simp at hc
    simp only [Lib.atoi, h1, h2, Bool.false_eq_true, if_false, Lib.decNat, List.isEmpty_cons]
    rw [decFrom_val h 0]
    simp
theorem hasPrefix45 (l : List UInt8) : Lib.hasPrefix l [45] = decide (l.head? = some 45) := by
  unfold Lib.hasPrefix
  cases l with
  | nil => simp [List.isPrefixOf]
  | cons a t =>
    simp only [List.isPrefixOf, Bool.and_true, List.head?_cons, Option.some.injEq]
    rw [Bool.eq_iff_iff, beq_iff_eq, decide_eq_true_iff]
    exact ⟨fun h => h.symm, fun h => h.symm⟩
theorem trimPrefix45 (l : List UInt8) : Lib.trimPrefix l [45] = body l := by
  unfold Lib.trimPrefix body
  rw [hasPrefix45]
  by_cases h : l.head? = some 45
  · simp [h]
  · simp [h]
end Go.Txt
namespace Go.Proofs.YtbocpkjajocpiaaGreatDoor
set_option linter.unusedVariables false
open Go.RowKit Go.Mem Go.Dig
open Go.Lib (decDigits)

theorem St_dat (l : List UInt8) : (St l).data.toList = l := by simp [St]
theorem St_take (l : List UInt8) (k : Nat) : (St l).extract 0 k = St (l.take k) := by
  apply ByteArray.ext
  simp [St]
theorem St_drop (l : List UInt8) (k : Nat) : (St l).extract k (St l).size = St (l.drop k) := by
  apply ByteArray.ext
  simp [St, ByteArray.size]
  rw [List.take_of_length_le (by simp)]

theorem cut_any (b : ByteArray) (l : List UInt8) (hb : b = St l) (w : World) :
    Calls Tryz.prog 73 #[.string b, .string ⟨#[45]⟩] w fun e w' => e = .returned (.tuple #[.string (St (Txt.body l)), .bool (decide (l.head? = some 45))]) ∧ w = w' := by
  refine (Tryz.strings_CutPrefix b ⟨#[45]⟩ w).mono ?_
  rintro e w' ⟨rfl, rfl⟩
  subst hb
  rw [St_dat, show (⟨#[45]⟩ : ByteArray).data.toList = [45] by rfl, Txt.trimPrefix45, Txt.hasPrefix45]
  exact ⟨rfl, rfl⟩
theorem atoi_any (b : ByteArray) (l : List UInt8) (hb : b = St l) (h : Txt.AllDig l) (hn : l ≠ []) (h9 : l.length ≤ 9) (w : World) :
    Calls Tryz.prog 75 #[.string b] w fun e w' => e = .returned (.tuple #[.int .i64 (Txt.decVal l : Int), .nilIface]) ∧ New w w' := by
  subst hb
  refine (Tryz.strconv_Atoi (St l) (Txt.decVal l) (by rw [St_size]; omega) (by rw [St_dat]; exact Txt.atoi_val h hn) w).mono ?_
  rintro e w' ⟨rfl, t, rfl⟩
  exact ⟨rfl, conv_new _ _ _⟩

set_option maxHeartbeats 1000000 in
set_option maxRecDepth 100000 in
theorem wparse_bad (b : ByteArray) (l : List UInt8) (hb : b = St l) (hn : b.size ≤ 5000) (h : ∀ z, ¬ Txt.Reads l z) (w : World) :
    Calls Tryz.prog 19 #[.string b] w fun e w' => e = .returned (.tuple #[.agg #[.bool false, .slice none 0 0], .int .i64 2]) ∧ New w w' := by
  have h1 : decide ((5000 : Int) < (b.size : Int)) = false := by simp; omega
  have h1' : decide (5000 < b.size) = false := by simp; omega
  have hcut := cut_any b l hb
  obtain ⟨c, hc⟩ : ∃ c, St (Txt.body l) = c := ⟨_, rfl⟩
  have hcs : c.size ≤ 5000 := by rw [← hc, St_size]; have := Txt.Reads.body_len l; rw [hb, St_size] at hn; omega
  obtain ⟨g, hg⟩ : ∃ g, decide (l.head? = some 45) = g := ⟨_, rfl⟩
  rw [hc, hg] at hcut
  by_cases hf : Txt.Formed (Txt.body l)
  · have hdg := digits_wide c (Txt.body l) hc.symm hcs true ⟨fun _ => hf, fun _ => rfl⟩
    have hbad : l.head? = some 45 ∧ Txt.body l = [48] := by
      refine Classical.byContradiction (fun hx => h _ ⟨hf, hx, rfl⟩)
    obtain rfl : true = g := by rw [← hg]; simp [hbad.1]
    have hcc : c = ⟨#[48]⟩ := by rw [← hc, hbad.2]; rfl
    subst hcc
    have HC := Lib.hid (And.intro hcut hdg)
    clear hcut hdg hb h hc hg hf hbad hcs
    go_enter Tryz.func19, Tryz.ntmps19
    go_wp2_with fail
    refine (HC.out.1 _).mono ?_
    rintro e w1 ⟨rfl, rfl⟩
    go_wp2_with fail
    refine (HC.out.2 _).mono ?_
    rintro e w1 ⟨rfl, rfl⟩
    go_wp2
    exact bodyPost_ret (res_ct rfl _ rfl (aggInt.load (Blk.new _ _ _)) rfl) rfl ⟨rfl, (Chg.refl _ w).alloc _⟩
  · have hdg := digits_wide c (Txt.body l) hc.symm hcs false ⟨fun h => by simp at h, fun h => absurd h hf⟩
    have HC := Lib.hid (And.intro hcut hdg)
    clear hcut hdg hb h hc hg hf hcs
    go_enter Tryz.func19, Tryz.ntmps19
    go_wp2_with fail
    refine (HC.out.1 _).mono ?_
    rintro e w1 ⟨rfl, rfl⟩
    go_wp2_with fail
    refine (HC.out.2 _).mono ?_
    rintro e w1 ⟨rfl, rfl⟩
    go_wp2
    exact bodyPost_ret (res_ct rfl _ rfl (aggInt.load (Blk.new _ _ _)) rfl) rfl ⟨rfl, (Chg.refl _ w).alloc _⟩

theorem sg_reads {l : List UInt8} {z : Int} (h : Txt.Reads l z) : sg (decide (l.head? = some 45)) (Txt.decVal (Txt.body l)) = z := by
  rw [h.2.2]
  unfold sg
  by_cases hs : l.head? = some 45 <;> simp [hs]
theorem WD.lit1 {W : World} {g d : Nat} {t : TypeId} (hb : Blk W g t #[.int .u32 (d : Int)]) (hd : d < 4294967296) : WD W (some ⟨g, 0, none⟩) 1 1 d := by
  refine ⟨[d], ⟨rfl, fun _ => ⟨_, rfl, fun j u hu => ?_⟩⟩, Nat.le_refl _, by omega, ⟨Digs.cons hd (Digs.nil _), by simp [val_cons, val_nil]⟩⟩
  match j, hu with
  | 0, hu =>
    simp [nv] at hu
    subst hu
    rw [Addr.add_lit]
    exact hb.cell 0 rfl
theorem WM.lit1 {W : World} {g d : Nat} {t : TypeId} (hb : Blk W g t #[.int .u32 (d : Int)]) (hd : d < 4294967296) (h1 : 1 ≤ d) : WM W (some ⟨g, 0, none⟩) 1 1 d := by
  obtain ⟨l, h2, h3, h4, h5⟩ := WD.lit1 hb hd
  refine ⟨[d], ?_, h3, h4, ⟨Digs.cons hd (Digs.nil _), by simp [Trim]; omega, by simp [val_cons, val_nil]⟩⟩
  refine ⟨rfl, fun _ => ⟨_, rfl, fun j u hu => ?_⟩⟩
  match j, hu with
  | 0, hu =>
    simp [nv] at hu
    subst hu
    rw [Addr.add_lit]
    exact hb.cell 0 rfl
theorem val_bound {l : List UInt8} (h : Txt.AllDig l) {k : Nat} (hk : l.length ≤ k) : Txt.decVal l < 4294967296 ^ k :=
  Nat.lt_of_lt_of_le (Txt.decVal_lt h) (Nat.le_trans (Nat.pow_le_pow_left (by omega) _) (Nat.pow_le_pow_right (by omega) hk))
theorem val_chunk (t : List UInt8) (k j : Nat) (hj : k + j ≤ t.length) (h9 : k = 0 ∨ j = 9) : Txt.decVal (t.take k) * 1000000000 + Txt.decVal ((t.drop k).take j) = Txt.decVal (t.take (k + j)) := by
  rw [List.take_add, Txt.decVal_append, List.length_take, Nat.min_eq_left (by simp; omega)]
  rcases h9 with h | h
  · subst h
    rw [List.take_zero, Txt.decVal_nil]
    omega
  · subst h; rfl

set_option maxHeartbeats 4000000 in
set_option maxRecDepth 100000 in
theorem wparse_ok (b : ByteArray) (l : List UInt8) (hb : b = St l) (hn : b.size ≤ 5000) (z : Int) (h : Txt.Reads l z) (w : World) :
    Calls Tryz.prog 19 #[.string b] w fun e w' => ∃ s A n c, e = .returned (.tuple #[.agg #[.bool s, .slice A n c], .int .i64 (rgE z)]) ∧ Hid (WI w' (.agg #[.bool s, .slice A n c]) (rg z) ∧ New w w') := by
  have h1 : decide ((5000 : Int) < (b.size : Int)) = false := by simp; omega
  have h1' : decide (5000 < b.size) = false := by simp; omega
  have hcut := cut_any b l hb
  obtain ⟨c, hc⟩ : ∃ c, St (Txt.body l) = c := ⟨_, rfl⟩
  have hbl := Txt.Reads.body_len l
  have hcs : c.size ≤ 5000 := by rw [← hc, St_size]; rw [hb, St_size] at hn; omega
  obtain ⟨g, hg⟩ : ∃ g, decide (l.head? = some 45) = g := ⟨_, rfl⟩
  rw [hc, hg] at hcut
  have hdg := digits_wide c (Txt.body l) hc.symm hcs true ⟨fun _ => h.1, fun _ => rfl⟩
  have hall := h.1.1
  have hsg := sg_reads h
  rw [hg] at hsg
  obtain ⟨t, ht⟩ : ∃ t, Txt.body l = t := ⟨_, rfl⟩
  rw [ht] at hc hall hsg
  have hneg : g = false ∨ (g = true ∧ (c.toList == [48]) = false) := by
    by_cases h45 : l.head? = some 45
    · right
      refine ⟨by rw [← hg]; simp [h45], ?_⟩
      have h2 := h.2.1
      have : t ≠ [48] := fun e => h2 ⟨h45, by rw [ht, e]⟩
      rw [Lib.toList_data, ← hc, St_dat]
      simpa using this
    · left; rw [← hg]; simp [h45]
  obtain ⟨E, hE⟩ : ∃ E, rgE z = E := ⟨_, rfl⟩
  rw [hE]
  have htl : t.length = c.size := by rw [← hc, St_size]
  have HC := Lib.hid (And.intro hcut hdg)
  have H0 := Lib.hid (And.intro hc (And.intro hall (And.intro hsg (And.intro hE htl))))
  clear hcut hdg hb h hc hg hbl hall hsg ht hE htl
  go_enter Tryz.func19, Tryz.ntmps19
  go_wp2_with fail
  refine Calls.new1 ?_
  intro W hbW hnW hzW
  refine (HC.out.1 W).mono ?_
  rintro e w1 ⟨rfl, rfl⟩
  go_wp2_with fail
  refine (HC.out.2 W).mono ?_
  rintro e w1 ⟨rfl, rfl⟩
  have HW := Lib.hid (And.intro hbW (And.intro hnW hzW))
  clear hbW hnW hzW HC
  have hneg2 : g = false ∨ (g = true ∧ (c.toList == [48]) = false ∧ ¬ c.toList = [48]) := by
    rcases hneg with h | ⟨h, h2⟩
    · exact .inl h
    · exact .inr ⟨h, h2, by simpa using h2⟩
  clear hneg
  have hran : ∀ R m d wo, WM wo R m d (Txt.decVal t) → Calls Tryz.prog 78 #[.bool g, .slice R m d] wo fun e w' => ∃ s' A' n' c', e = .returned (.tuple #[.agg #[.bool s', .slice A' n' c'], .int .i64 E]) ∧ Hid (WI w' (.agg #[.bool s', .slice A' n' c']) (rg z) ∧ New wo w') := fun R m d wo hwm => by
    have := ranged_wm g R m d _ wo hwm
    rw [H0.out.2.2.1, H0.out.2.2.2.1] at this
    exact this
  have HRAN := Lib.hid hran
  clear hran
  rcases hneg2 with h | ⟨h, h48, h48'⟩ <;> subst h
  all_goals
    go_wp2_with fail
    (try clear h48 h48')
    go_loopw [4, 6, 7, 8, 9] (fun s4 s6 _ _ _ wr => ∃ (k : Nat) (b' : ByteArray) (R : Option Addr) (m d : Nat), s4 = .string b' ∧ s6 = .slice R m d ∧ k + b'.size = c.size ∧ (k = 0 ∨ b'.size % 9 = 0) ∧ Hid (b' = St (t.drop k) ∧ WM wr R m d (Txt.decVal (t.take k)) ∧ New W wr)) (fun s4 _ _ _ _ _ => match s4 with | .string b => b.size | _ => 0)
    case atStart => exact ⟨0, c, none, 0, 0, rfl, rfl, by omega, .inl rfl, H0.out.1.symm, WM.zero _, Chg.refl _ _⟩
    case round =>
      obtain ⟨k, b', R, m, d, rfl, rfl, hkc, hk9, HI⟩ := hrel
      obtain ⟨wo, rfl⟩ : ∃ wo : World, wo = wr := ⟨_, rfl⟩
      obtain ⟨hc, hall, hsg, hE, htl⟩ := H0.out
      obtain ⟨hb', hwm, hnw⟩ := HI.out
      have hm : m ≤ 5000 := Nat.le_trans (hwm.len (val_bound (hall.take k) (k := c.size) (by simp; omega))) hcs
      by_cases h0 : b'.size = 0
      · have hpos : decide ((0 : Int) < ((b'.size : Nat) : Int)) = false := by rw [h0]; rfl
        have hpos' : decide (0 < b'.size) = false := by rw [h0]; rfl
        have hk : k = t.length := by omega
        rw [hk, List.take_length] at hwm
        have hran := HRAN.out R m d wo hwm
        have hbw := HW.out.1.chg hnw (fun h => h)
        have HR := Lib.hid (And.intro hran (And.intro hbw hnw))
        clear hc hall hsg hE htl hb' hwm hnw hk hran hbw HI h0
        go_wp2_with fail
        refine HR.out.1.mono ?_
        rintro e w5 ⟨s5, A5, n5, c5, rfl, H5⟩
        have hb5 := HR.out.2.1.chg H5.out.2 (fun h => h)
        have g0 := hb5.cell 0 rfl
        have g1 := hb5.cell 1 rfl
        have f0 := hb5.frozen 0
        have f1 := hb5.frozen 1
        have HB := Lib.hid hb5
        clear hb5
        go_wp2
        refine bodyPost_ret (res_ct rfl _ rfl (aggInt.load (HB.out.set2 _ _)) rfl) rfl ⟨s5, A5, n5, c5, rfl, H5.out.1.store HB.out (noInt_two _ _ _ _) (Chg.at2 _ _ _ _), ?_⟩
        exact Chg.owned ((HW.out.2.1.new HR.out.2.2).new H5.out.2) (Chg.at2 _ _ _ _) (fun k e => by omega)
      · have hpos : (0 : Int) < ((b'.size : Nat) : Int) := by omega
        have hpos' : 0 < b'.size := by omega
        obtain ⟨p, hp⟩ : ∃ p, b'.size - 1 = p := ⟨_, rfl⟩
        obtain ⟨q, hq⟩ : ∃ q, p % 9 = q := ⟨_, rfl⟩
        obtain ⟨j, hj⟩ : ∃ j, q + 1 = j := ⟨_, rfl⟩
        have hpi : ((b'.size : Nat) : Int) - 1 = (p : Int) := by omega
        have hqi : (p : Int) % 9 = (q : Int) := by omega
        have hji : (q : Int) + 1 = (j : Int) := by omega
        have hj9 : j ≤ 9 := by omega
        have hjb : j ≤ b'.size := by omega
        have hjk : k = 0 ∨ j = 9 := by omega
        have hrest : (b'.size - j) % 9 = 0 := by omega
        have hdl : (t.drop k).length = b'.size := by simp; omega
        obtain ⟨b1, hb1⟩ : ∃ x, St ((t.drop k).take j) = x := ⟨_, rfl⟩
        obtain ⟨b2, hb2⟩ : ∃ x, St ((t.drop k).drop j) = x := ⟨_, rfl⟩
        have hb2s : b2.size = b'.size - j := by rw [← hb2, St_size, List.length_drop, hdl]
        have hs1 : ∀ W, (Instr.slice 9 (.string b') none (some (.int .i64 (j : Int))) none).run Tryz.prog W = .ok (.string b1) W := fun W => by
          rw [run_slice_string_h W 9 b' Tryz.underlying9 .i64 (j : Int) (by omega) (by omega), Int.toNat_natCast, hb', St_take, hb1]
        have hs2 : ∀ W, (Instr.slice 9 (.string b') (some (.int .i64 (j : Int))) none none).run Tryz.prog W = .ok (.string b2) W := fun W => by
          rw [run_slice_string_l W 9 b' Tryz.underlying9 .i64 (j : Int) (by omega) (by omega), Int.toNat_natCast, hb', St_drop, hb2]
        have hat := atoi_any b1 ((t.drop k).take j) hb1.symm ((hall.drop k).take j) (by intro e; have := congrArg List.length e; simp at this; omega) (by simp; omega)
        have hPb := Txt.decVal_lt ((hall.drop k).take j)
        have hval := val_chunk t k j (by omega) hjk
        obtain ⟨P, hP⟩ : ∃ P, Txt.decVal ((t.drop k).take j) = P := ⟨_, rfl⟩
        obtain ⟨V, hV⟩ : ∃ V, Txt.decVal (t.take k) = V := ⟨_, rfl⟩
        rw [hP] at hat hPb hval
        rw [hV] at hwm hval
        have hPb2 : P < 1000000000 := by
          refine Nat.lt_of_lt_of_le hPb ?_
          refine Nat.le_trans (Nat.pow_le_pow_right (by omega) (show ((t.drop k).take j).length ≤ 9 by simp; omega)) (by decide)
        have HR := Lib.hid (And.intro hwm (And.intro hnw (And.intro hval (And.intro hat (show b2 = St (t.drop (k + j)) by rw [← hb2, List.drop_drop])))))
        have HRE := Lib.hid (And.intro hrest (And.intro hb2s (show j + b2.size = b'.size by omega)))
        clear hc hall hsg hE htl hb' hwm hnw HI h0 hp hq hj hjk hrest hdl hb1 hb2 hb2s hat hPb hval hP hV
        go_wp2_with fail
        refine (HR.out.2.2.2.1 wo).mono ?_
        rintro e w2 ⟨rfl, hn2⟩
        have HN2 := Lib.hid hn2
        clear hn2
        have hPi : (P : Int) % 4294967296 = (P : Int) := by omega
        go_wp2_with fail
        refine Calls.new1 ?_
        intro W3 hb3 hn3 hz3
        refine (mulMag_any R m d _ 1 1 V 1000000000 W3 ((HR.out.1.new HN2.out).new hn3) (WM.lit1 (d := 1000000000) hb3 (by omega) (by omega)) (by omega) (by omega)).mono ?_
        rintro e w4 ⟨R4, m4, d4, rfl, H4⟩
        have HN3 := Lib.hid hn3
        clear hb3 hn3 hz3
        have hm4 : m4 ≤ 5000 := by
          obtain ⟨hc, hall, hsg, hE, htl⟩ := H0.out
          have hb := val_bound (hall.take (k + j)) (k := c.size) (by simp; omega)
          rw [← HR.out.2.2.1] at hb
          exact Nat.le_trans (H4.out.1.len (k := c.size) (Nat.lt_of_le_of_lt (Nat.le_add_right _ _) hb)) hcs
        go_wp2_with fail
        refine Calls.new1 ?_
        intro W5 hb5 hn5 hz5
        refine (addMag_wd R4 m4 d4 _ 1 1 (V * 1000000000) P W5 (H4.out.1.new hn5).wd (WD.lit1 hb5 (by omega)) (by omega) (by omega)).mono ?_
        rintro e w6 ⟨R6, m6, d6, rfl, H6⟩
        have HN5 := Lib.hid hn5
        clear hb5 hn5 hz5
        go_wp2_with fail
        go_roundw
        case rel =>
          refine ⟨k + j, b2, R6, m6, d6, rfl, rfl, by have := HRE.out.2.2; omega, .inr (by rw [HRE.out.2.1]; exact HRE.out.1), HR.out.2.2.2.2, ?_, ?_⟩
          · have := H6.out.1
            rwa [HR.out.2.2.1] at this
          · exact ((((HR.out.2.1.new HN2.out).new HN3.out).new H4.out.2.2).new HN5.out).new H6.out.2
        case measure =>
          show b2.size < b'.size
          have := HRE.out.2.1
          omega
end Go.Proofs.YtbocpkjajocpiaaGreatDoor

namespace Go.Proofs.YtbocpkjajocpiaaGreatDoor
set_option linter.unusedVariables false
open Go.RowKit Go.Mem Go.Dig
open Go.Lib (decDigits)

/-- The library's table of powers of ten lies as its text lays it. -/
def PowTab (w : World) : Prop := Lib.TabIs Tryz.prog w "internal/strconv.uint64pow10" .u64 Lib.pow10Tab
theorem PowTab.chg {S : Nat → Prop} {w w' : World} (h : PowTab w) (hc : Chg S w w') (hs : ∀ g, Tryz.prog.globalNamed "internal/strconv.uint64pow10" = some g → ¬ S g) : PowTab w' := by
  unfold PowTab Lib.TabIs World.var? at h ⊢
  cases hg : Tryz.prog.globalNamed "internal/strconv.uint64pow10" with
  | none => rw [hg] at h; simp at h
  | some g =>
    rw [hg] at h
    simp only [Option.bind_some] at h ⊢
    cases ho : w.heap[g]? with
    | none => rw [ho] at h; simp at h
    | some o =>
      rw [hc.heap ho (hs g hg)]
      rw [ho] at h
      exact h
theorem PowTab.new {w w' : World} (h : PowTab w) (hc : New w w') : PowTab w' := h.chg hc (fun _ _ h => h)
theorem grow_new (w : World) (k : Nat) (os : Array Obj) : New w (Sort.grow (w.drewN k) os) := by
  refine ⟨rfl, rfl, rfl, by simp [Sort.grow, World.drewN], fun j hj _ => ?_⟩
  simp only [Sort.grow, World.drewN]
  rw [Array.getElem?_append_left hj]

theorem itoa_any (d : Nat) (hd : d < 1000000000) (w : World) (ht : PowTab w) :
    Calls Tryz.prog 89 #[.int .i64 (d : Int)] w fun e w' => e = .returned (.string (St (decDigits d))) ∧ New w w' := by
  refine (Tryz.strconv_Itoa (d : Int) (by omega) (by omega) w ht).mono ?_
  rintro e w' ⟨rfl, k, os, rfl⟩
  refine ⟨?_, grow_new _ _ _⟩
  have : Lib.itoa (d : Int) = decDigits d := by
    unfold Lib.itoa
    rw [if_neg (by omega), Int.toNat_natCast]
  rw [this]
  rfl
theorem repeatL_rep (c : Nat) : Lib.repeatL [48] c = List.replicate c 48 := by
  induction c with
  | zero => rfl
  | succ c ih => rw [Lib.repeatL, ih, List.replicate_succ]; rfl
theorem repeat_any (c : Nat) (hc : c ≤ 9) (w : World) :
    Calls Tryz.prog 90 #[.string ⟨#[48]⟩, .int .i64 (c : Int)] w fun e w' => e = .returned (.string (St (List.replicate c 48))) ∧ New w w' := by
  refine (Tryz.strings_Repeat ⟨#[48]⟩ c w (by omega) (by rw [show (⟨#[48]⟩ : ByteArray).size = 1 by rfl]; omega)).mono ?_
  rintro e w' ⟨rfl, h⟩
  refine ⟨?_, New.of_below h⟩
  rw [show (⟨#[48]⟩ : ByteArray).data.toList = [48] by rfl, repeatL_rep]
  rfl
theorem elemStrs : Elem Tryz.prog 82 9 (.string ⟨#[]⟩) 16 := Elem.mk' Tryz.underlying82 (by kernel_rfl) rfl

/-- The parts of a text, the last first. -/
def joinR (ps : List (List UInt8)) : List UInt8 := ps.reverse.flatten
theorem joinR_snoc (ps : List (List UInt8)) (p : List UInt8) : joinR (ps ++ [p]) = p ++ joinR ps := by simp [joinR]
def StrI (T : List UInt8) (V : Nat) (ps : List (List UInt8)) : Prop := (if V = 0 then joinR ps else decDigits V ++ joinR ps) = T
theorem str_more {T : List UInt8} {V : Nat} {ps : List (List UInt8)} (h : StrI T V ps) (hq : 0 < V / 1000000000) : StrI T (V / 1000000000) (ps ++ [Txt.pad 9 (V % 1000000000)]) := by
  unfold StrI at h ⊢
  rw [if_neg (by omega)] at h ⊢
  have e := Txt.dec_pad 9 (V / 1000000000) (V % 1000000000) (Nat.mod_lt _ (by omega)) hq
  rw [show V / 1000000000 * 10 ^ 9 + V % 1000000000 = V by omega] at e
  rw [← h, e, joinR_snoc, List.append_assoc]
theorem str_last {T : List UInt8} {V : Nat} {ps : List (List UInt8)} (h : StrI T V ps) (h0 : V ≠ 0) (hq : V / 1000000000 = 0) : StrI T 0 (ps ++ [decDigits (V % 1000000000)]) := by
  unfold StrI at h ⊢
  rw [if_neg h0] at h
  rw [if_pos rfl, joinR_snoc, Nat.mod_eq_of_lt (by omega), h]
theorem pad9 {d : Nat} (hd : d < 1000000000) : List.replicate (9 - (decDigits d).length) 48 ++ decDigits d = Txt.pad 9 d := (Txt.pad_dec 9 d (by omega) (by omega)).symm
def strs (ps : List (List UInt8)) : List Value := ps.map (fun p => Value.string (St p))
theorem strs_one (ps : List (List UInt8)) : ∀ u ∈ strs ps, u.oneCell' = true := by
  intro u hu
  obtain ⟨_, _, rfl⟩ := List.mem_map.1 hu
  rfl
theorem StrI.len {T : List UInt8} {V : Nat} {ps : List (List UInt8)} (h : StrI T V ps) (hl : ps.length ≤ (joinR ps).length) : ps.length ≤ T.length := by
  unfold StrI at h
  rw [← h]
  split
  · exact hl
  · rw [List.length_append]; omega
theorem dec_words {Z n : Nat} (h : Z < 4294967296 ^ n) (hn : 1 ≤ n) : (decDigits Z).length ≤ 10 * n := by
  refine Txt.dec_len_le (by omega) (Nat.lt_of_lt_of_le h ?_)
  rw [Nat.pow_mul]
  exact Nat.pow_le_pow_left (by decide) n
/-- What the first loop of String holds. -/
def S1 (w : World) (T : List UInt8) (R : Option Addr) (m d : Nat) (PA : Option Addr) (k pc V : Nat) (ps : List (List UInt8)) (wr : World) : Prop :=
  WM wr R m d V ∧ StrI T V ps ∧ ps.length = k ∧ k ≤ (joinR ps).length ∧ wr.ownsRow w.heap.size 9 1 (.slice PA k pc) k (strs ps) ∧ New w wr
theorem chg_below {B : Nat} {w w' : World} (h : Below B w w') : Chg (fun j => B ≤ j) w w' := ⟨h.os, h.tape, h.output, h.size, fun k _ hn => h.block k (by omega)⟩
/-- What the second loop of String holds. -/
def S2 (wo : World) (gb : Nat) (sgn : List UInt8) (ps : List (List UInt8)) (k : Nat) (wr : World) : Prop :=
  Lib.IsBuilder 129 5 gb gb (Lib.byteCells (sgn ++ (ps.drop k).reverse.flatten)) wr ∧ Chg (fun j => gb ≤ j) wo wr
theorem flat_step {ps : List (List UInt8)} {k : Nat} {p : List UInt8} (h : ps[k]? = some p) : (ps.drop k).reverse.flatten = (ps.drop (k + 1)).reverse.flatten ++ p := by
  obtain ⟨hk, hp⟩ := List.getElem?_eq_some_iff.1 h
  rw [List.drop_eq_getElem_cons hk, hp]
  simp
theorem flat_le (ps : List (List UInt8)) (k : Nat) : (ps.drop k).reverse.flatten.length ≤ (joinR ps).length := by
  unfold joinR
  rw [← List.take_append_drop k ps, List.reverse_append, List.flatten_append, List.length_append]
  simp
theorem strCells_St (p : List UInt8) : Lib.strCells (St p) = Lib.byteCells p := by
  unfold Lib.strCells Lib.byteCells
  rw [St_dat]
theorem strs_at {ps : List (List UInt8)} {k : Nat} {u : Value} (h : (strs ps)[k]? = some u) : ∃ p, ps[k]? = some p ∧ u = .string (St p) := by
  simp only [strs, List.getElem?_map, Option.map_eq_some_iff] at h
  obtain ⟨c, h1, h2⟩ := h
  exact ⟨c, h1, h2.symm⟩
theorem S1.next {w2 wo w3 w6 w7 : World} {T : List UInt8} {R : Option Addr} {m d : Nat} {PA : Option Addr} {k pc V : Nat} {ps : List (List UInt8)} {g3 T1 m1 V1 c7 : Nat} {A7 : Option Addr} {p : List UInt8} {o : Obj} (h : S1 w2 T R m d PA k pc V ps wo) (hg : wo.heap.size ≤ g3) (hn3 : New wo w3) (hwm : WM w3 (some ⟨g3, 0, none⟩) T1 m1 V1) (hn6 : New w3 w6)
    (hown : w7.ownsRow w2.heap.size 9 1 (.slice A7 (k + 1) c7) (k + 1) (strs ps ++ strs [p])) (hgr : (w6.alloc o).grownBy w7 (blk PA)) (hst : StrI T V1 (ps ++ [p])) (hp : 1 ≤ p.length) : S1 w2 T (some ⟨g3, 0, none⟩) T1 m1 A7 (k + 1) c7 V1 (ps ++ [p]) w7 := by
  obtain ⟨h1, h2, h3, h4, h5, h6⟩ := h
  have hch : Chg (fun j => blk PA = some j) w6 w7 := ((Chg.refl _ w6).alloc o).grown hgr (fun j hj _ => hj)
  refine ⟨(hwm.new hn6).chg hch (fun j hj e => ?_), hst, by simp [h3], by rw [joinR_snoc, List.length_append]; omega, by rw [show strs (ps ++ [p]) = strs ps ++ strs [p] by simp [strs]]; exact hown, ?_⟩
  · have := (own_blk_le h5 e).2
    simp [blk] at hj
    omega
  · exact ((h6.new hn3).new hn6).trans hch (fun j hj e => by have := (own_blk_le h5 e).1; omega)
theorem rd_str {w : World} {b : ByteArray} {l : List UInt8} {e : TypeId} {g : Nat} (hg : g = w.heap.size) (hb : b = St l) : Rd (w.alloc (.cells #[.string b] e)) (some ⟨g, 0, none⟩) 1 (strs [l]) := by
  subst hg hb; exact Rd.lit (strs [l]) rfl

set_option maxHeartbeats 4000000 in
set_option maxRecDepth 100000 in
theorem wstring_any (v : Value) (z : Int) (w : World) (hv : WI w v z) (hpt : PowTab w) (hz : z.natAbs < 2 ^ 900000) :
    Calls Tryz.prog 23 #[v] w fun e w' => e = .returned (.string (St (Txt.text z))) ∧ New w w' := by
  obtain ⟨s, A, n, c, rfl, hs, hm⟩ := hv
  have hn := bz_wlen hm hz
  clear hz
  obtain ⟨T, hT⟩ : ∃ T, Txt.text z = T := ⟨_, rfl⟩
  rw [hT]
  by_cases h0 : n = 0
  · subst h0
    have hz0 : z.natAbs = 0 := hm.pos.1 rfl
    obtain rfl : [48] = T := by
      rw [← hT]; unfold Txt.text; rw [if_neg (by omega), hz0, Txt.dec_small (by omega)]; rfl
    clear hm hT hz0 hs hpt
    go_enter Tryz.func23, Tryz.ntmps23
    go_wp2
    go_ret
    exact ⟨rfl, (Chg.refl _ w).alloc _⟩
  · have hn0 : ((n : Int) == 0) = false := by simp; omega
    obtain ⟨Z, hZ⟩ : ∃ Z, z.natAbs = Z := ⟨_, rfl⟩
    rw [hZ] at hm
    have hZ1 : Z ≠ 0 := fun h => h0 (hm.pos.2 h)
    obtain ⟨la, hr, hnc, hc, hN⟩ := hm
    have H0 := Lib.hid (And.intro hr (And.intro hN (And.intro hs (And.intro hT (And.intro hZ hpt)))))
    have hbW := fun (W : World) => Rd.new (w := w) (w' := W) hr
    clear hr hN hs hT hZ hpt hbW
    go_enter Tryz.func23, Tryz.ntmps23
    go_upto_region 3 with fail
    refine Code.new1 ?_
    intro W hb1 hnW hzW
    have hk1 := hb1.cell 1 (u := .slice A n c) rfl
    have HW := Lib.hid (And.intro hb1 hnW)
    clear hb1 hnW hzW
    go_wp2_with (first
      | (at_make; refine wpList_mk elemU32 rfl rfl _ _ rfl (n := n) rfl rfl (by omega) (by omega) (by omega) (by simp only [maxLen]; omega) ?_; intro w1 hown1 hg1 hz1; have HMK := Lib.hid (And.intro hown1 (And.intro hg1 hz1)); have hk2 := hg1.cell hk1 (fun h => h); clear hown1 hg1 hz1)
      | ((with_reducible refine wpList_cp elemU32 rfl (.tmp 17) (.tmp 19) rfl rfl HMK.out.1 rfl (Nat.le_refl _) ((H0.out.1.new HW.out.2).new HMK.out.2.1) (nv_one _) ?_); intro w2 hown2 hch2; have HCP := Lib.hid (And.intro hown2 hch2); clear hown2 hch2))
    have hnw2 : New w w2 := Chg.owned (HW.out.2.new HMK.out.2.1) HCP.out.2 (fun k e => by have := HW.out.2.size; omega)
    have hb2 : Blk w2 w.heap.size 35 #[.bool s, .slice A n c] := (HW.out.1.chg HMK.out.2.1 (fun h => h)).chg HCP.out.2 (by have := HW.out.1.lt; omega)
    have hZlt : Z < 4294967296 ^ n := H0.out.2.1.lt (by omega) (by have := H0.out.1.len; rw [nv_length] at this; omega)
    obtain ⟨TD, hTD⟩ : ∃ x, decDigits Z = x := ⟨_, rfl⟩
    have hTl : TD.length ≤ 9000000 := by rw [← hTD]; have := dec_words hZlt (by omega); omega
    have hS : S1 w2 TD (some ⟨W.heap.size, 0, none⟩) n n none 0 0 Z [] w2 := by
      refine ⟨⟨la, ?_, Nat.le_refl _, by omega, H0.out.2.1⟩, ?_, rfl, Nat.zero_le _, World.ownsRow_nil w2 w2.heap.size _ _, Chg.refl _ _⟩
      · have := Rd.of_own HCP.out.1
        rwa [List.drop_eq_nil_of_le (by simp), List.append_nil] at this
      · unfold StrI; rw [if_neg hZ1, hTD]; simp [joinR]
    obtain ⟨gr, hgr⟩ : ∃ x, W.heap.size = x := ⟨_, rfl⟩
    rw [hgr] at hS
    simp only [hgr]
    have H2 := Lib.hid (And.intro hS (And.intro hnw2 (And.intro hb2 hTD)))
    clear hnw2 hb2 hZlt hTD hS hgr HCP HMK hk1 hk2
    go_loopw [3, 4, 5, 6] (fun s3 s4 _ _ wr => ∃ (R : Option Addr) (m d : Nat) (PA : Option Addr) (k pc V : Nat) (ps : List (List UInt8)), s3 = .slice R m d ∧ s4 = .slice PA k pc ∧ m ≤ 900000 ∧ Hid (S1 w2 TD R m d PA k pc V ps wr)) (fun s3 s4 _ _ _ => match s3, s4 with | .slice _ m _, .slice _ k _ => if m = 0 then 0 else 9000001 - k | _, _ => 0)
    case atStart => exact ⟨_, n, n, none, 0, 0, Z, [], rfl, rfl, hn, H2.out.1⟩
    case round =>
      obtain ⟨R, m, d, PA, k, pc, V, ps, rfl, rfl, hm, HS⟩ := hrel
      obtain ⟨wo, rfl⟩ : ∃ wo : World, wo = wr := ⟨_, rfl⟩
      obtain ⟨hwm, hst, hpl, hpj, hown, hnw⟩ := HS.out
      have hkT : k ≤ 9000000 := by have := hst.len (by omega); omega
      by_cases hm0 : m = 0
      · subst hm0
        have hV0 : V = 0 := hwm.pos.1 rfl
        subst hV0
        obtain ⟨gb, hgb⟩ : ∃ x, wo.heap.size = x := ⟨_, rfl⟩
        have hbo := H2.out.2.2.1.chg hnw (fun h => h)
        have hk0 := ((Chg.refl (fun _ => False) wo).alloc (.cells #[.pointer none, .slice none 0 0] 129)).cell (hbo.cell 0 (u := .bool s) rfl) (fun h => h)
        have hjT : joinR ps = TD := by unfold StrI at hst; rw [if_pos rfl] at hst; exact hst
        have hrd : Rd wo PA k (strs ps) := Rd.of_own hown
        have hblk : ∀ j, blk PA = some j → j < gb := fun j hj => by have := (own_blk_le hown hj).2; omega
        have hneww : New w wo := H2.out.2.1.new hnw
        have hlen : ∀ j, (ps.drop j).reverse.flatten.length ≤ 9000000 := fun j => Nat.le_trans (flat_le ps j) (by rw [hjT]; exact hTl)
        have HP := Lib.hid (And.intro hjT (And.intro hrd (And.intro hblk (And.intro hneww (And.intro hlen (And.intro hpl hgb))))))
        clear hwm hst hpj hown hnw HS hbo hjT hrd hblk hneww hlen hpl
        have fin : ∀ (sgn : List UInt8), sgn.length ≤ 1 → sgn ++ TD = T → ∀ (wr : World), S2 wo gb sgn ps 0 wr → Calls Tryz.prog 93 #[.pointer (some ⟨gb, 0, none⟩)] wr fun e w' => e = .returned (.string (St T)) ∧ Hid (New w w') := fun sgn _ hT wr h => by
          obtain ⟨h1, h2⟩ := h
          obtain ⟨hjT, hrd, hblk, hneww, hlen, hpl, hgb⟩ := HP.out
          rw [List.drop_zero, show ps.reverse.flatten = joinR ps by rfl, hjT, hT] at h1
          refine (Tryz.Builder_String_any gb gb T wr h1 (by have := h2.size; omega)).mono ?_
          rintro e w' ⟨rfl, hb⟩
          exact ⟨rfl, hneww.trans (h2.trans (chg_below hb) (fun _ _ h => h)) (fun j hj e => by have := hneww.size; omega)⟩
        have stp : ∀ (sgn : List UInt8), sgn.length ≤ 1 → ∀ (i : Nat) (p : List UInt8) (wr : World), ps[i]? = some p → S2 wo gb sgn ps (i + 1) wr → Calls Tryz.prog 92 #[.pointer (some ⟨gb, 0, none⟩), .string (St p)] wr fun e w' => (∃ v, e = .returned v) ∧ Hid (S2 wo gb sgn ps i w') := fun sgn hs1 i p wr hp h => by
          obtain ⟨h1, h2⟩ := h
          obtain ⟨hjT, hrd, hblk, hneww, hlen, hpl, hgb⟩ := HP.out
          have hl := hlen i
          rw [flat_step hp, List.length_append] at hl
          refine (Tryz.Builder_WriteString gb gb _ (St p) wr h1 (by simp only [Lib.byteCells, List.length_map, List.length_append, St_size]; omega) (by have := h2.size; omega)).mono ?_
          rintro e w' ⟨rfl, hb, hbel⟩
          refine ⟨⟨_, rfl⟩, ?_, h2.trans (chg_below hbel) (fun _ _ h => h)⟩
          rw [strCells_St, ← Lib.byteCells_append, List.append_assoc, ← flat_step hp] at hb
          exact .inr hb
        have HF := Lib.hid (And.intro fin stp)
        clear fin stp
        obtain ⟨hr, hN, hs, hT, hZ, hpt⟩ := H0.out
        have hTD := H2.out.2.2.2
        have hstart : Lib.IsBuilder 129 5 gb gb [] (wo.alloc (.cells #[.pointer none, .slice none 0 0] 129)) := by rw [← hgb]; exact Lib.fresh_isBuilder _ _ _
        cases s
        · have hsgn : [] ++ TD = T := by
            rw [← hT, ← hTD, ← hZ]; unfold Txt.text; rw [if_neg (by simpa using hs.symm)]; rfl
          have HS := Lib.hid (And.intro hsgn hstart)
          clear hr hN hs hT hZ hpt hTD hsgn hstart
          have HST : Hid (S2 wo gb [] ps k (wo.alloc (.cells #[.pointer none, .slice none 0 0] 129))) := by
            refine ⟨?_, (Chg.refl _ wo).alloc _⟩
            rw [List.drop_eq_nil_of_le (by have := HP.out.2.2.2.2.2.1; omega)]
            exact HS.out.2
          go_wp2_with fail
          clear hk0
          go_loopw [8] (fun i wr => ∃ j : Nat, i = .int .i64 ((j : Int) - 1) ∧ j ≤ k ∧ Hid (S2 wo gb [] ps j wr)) (fun i _ => (intOf i + 1).toNat)
          case atStart => exact ⟨k, rfl, Nat.le_refl _, HST⟩
          case round =>
            obtain ⟨j, rfl, hjk, HI⟩ := hrel
            obtain ⟨wq, rfl⟩ : ∃ wq : World, wq = wr := ⟨_, rfl⟩
            by_cases hj0 : j = 0
            · subst hj0
              rw [show (((0 : Nat) : Int) - 1) = -1 by rfl]
              go_wp2_with fail
              refine (HF.out.1 [] (by simp) HS.out.1 wq HI.out).mono ?_
              rintro e w9 ⟨rfl, H9⟩
              go_wp2
              go_ret
              exact ⟨rfl, H9.out⟩
            · obtain ⟨i, rfl⟩ : ∃ i, j = i + 1 := ⟨j - 1, by omega⟩
              rw [show (((i + 1 : Nat) : Int) - 1) = (i : Int) by omega]
              obtain ⟨hjT, hrd, hblk, hneww, hlen, hpl, hgb'⟩ := HP.out
              obtain ⟨ad, u, rfl, hu, hcu⟩ := (hrd.chg HI.out.2 (fun q hq _ e => by have := hblk q hq; omega)).at_ (show i < k by omega)
              obtain ⟨pp, hpp, rfl⟩ := strs_at hu
              have hst := HF.out.2 [] (by simp) i pp wq hpp HI.out
              have HST2 := Lib.hid hst
              clear hjT hrd hblk hneww hlen hpl hgb' hu hpp hst hj0
              go_wp2_with fail
              refine HST2.out.mono ?_
              rintro e w9 ⟨⟨ve, rfl⟩, H9⟩
              go_wp2
              go_roundw
              case rel => exact ⟨i, rfl, by omega, H9⟩
              case measure => simp [intOf]
        · have hsgn : [45] ++ TD = T := by
            rw [← hT, ← hTD, ← hZ]; unfold Txt.text; rw [if_pos (by simpa using hs.symm)]; rfl
          have HS := Lib.hid (And.intro hsgn hstart)
          clear hr hN hs hT hZ hpt hTD hsgn hstart
          go_wp2_with fail
          refine (Tryz.Builder_WriteByte gb gb [] 45 _ HS.out.2 (by simp) (by have := hgb; simp; omega)).mono ?_
          rintro e w8 ⟨rfl, hb8, hbel8⟩
          have HST : Hid (S2 wo gb [45] ps k w8) := by
            refine ⟨.inr ?_, ((Chg.refl _ wo).alloc _).trans (chg_below hbel8) (fun _ _ h => h)⟩
            rw [List.drop_eq_nil_of_le (by have := HP.out.2.2.2.2.2.1; omega)]
            exact hb8
          clear hb8 hbel8
          go_wp2_with fail
          clear hk0
          go_loopw [8] (fun i wr => ∃ j : Nat, i = .int .i64 ((j : Int) - 1) ∧ j ≤ k ∧ Hid (S2 wo gb [45] ps j wr)) (fun i _ => (intOf i + 1).toNat)
          case atStart => exact ⟨k, rfl, Nat.le_refl _, HST⟩
          case round =>
            obtain ⟨j, rfl, hjk, HI⟩ := hrel
            obtain ⟨wq, rfl⟩ : ∃ wq : World, wq = wr := ⟨_, rfl⟩
            by_cases hj0 : j = 0
            · subst hj0
              rw [show (((0 : Nat) : Int) - 1) = -1 by rfl]
              go_wp2_with fail
              refine (HF.out.1 [45] (by simp) HS.out.1 wq HI.out).mono ?_
              rintro e w9 ⟨rfl, H9⟩
              go_wp2
              go_ret
              exact ⟨rfl, H9.out⟩
            · obtain ⟨i, rfl⟩ : ∃ i, j = i + 1 := ⟨j - 1, by omega⟩
              rw [show (((i + 1 : Nat) : Int) - 1) = (i : Int) by omega]
              obtain ⟨hjT, hrd, hblk, hneww, hlen, hpl, hgb'⟩ := HP.out
              obtain ⟨ad, u, rfl, hu, hcu⟩ := (hrd.chg HI.out.2 (fun q hq _ e => by have := hblk q hq; omega)).at_ (show i < k by omega)
              obtain ⟨pp, hpp, rfl⟩ := strs_at hu
              have hst := HF.out.2 [45] (by simp) i pp wq hpp HI.out
              have HST2 := Lib.hid hst
              clear hjT hrd hblk hneww hlen hpl hgb' hu hpp hst hj0
              go_wp2_with fail
              refine HST2.out.mono ?_
              rintro e w9 ⟨⟨ve, rfl⟩, H9⟩
              go_wp2
              go_roundw
              case rel => exact ⟨i, rfl, by omega, H9⟩
              case measure => simp [intOf]
      · have hmp : (0 : Int) < (m : Int) := by omega
        have hmp' : 0 < m := by omega
        have hV0 : V ≠ 0 := fun h => hm0 (hwm.pos.2 h)
        have hdw := divWord_any R m d V 1000000000 wo hwm (by omega) (by omega) (by omega)
        obtain ⟨lo, hlo⟩ : ∃ x, V % 1000000000 = x := ⟨_, rfl⟩
        obtain ⟨hi, hhi⟩ : ∃ x, V / 1000000000 = x := ⟨_, rfl⟩
        rw [hlo, hhi] at hdw
        have hlob : lo < 1000000000 := by omega
        have hll := Txt.dec_len_le (u := lo) (k := 9) (by omega) (by omega)
        obtain ⟨tx, htx⟩ : ∃ x, St (decDigits lo) = x := ⟨_, rfl⟩
        have htxs : tx.size = (decDigits lo).length := by rw [← htx, St_size]
        have htx9 : tx.size ≤ 9 := by omega
        have hit := fun W h => itoa_any lo hlob W h
        rw [htx] at hit
        have HD := Lib.hid (And.intro hdw (And.intro hit (And.intro htx (And.intro htxs (And.intro hlo hhi)))))
        have HX := Lib.hid (And.intro hwm (And.intro hst (And.intro hpl (And.intro hpj (And.intro hown hnw)))))
        clear hdw hit htx htxs hlo hhi hwm hst hpl hpj hown hnw hll
        go_wp2_with fail
        refine HD.out.1.mono ?_
        rintro e w3 ⟨l3, g3, rfl, H3⟩
        go_wp2_with fail
        refine (trim_wm _ _ _ l3 w3 H3.out.1 H3.out.2.1 (Nat.le_refl _) (by omega)).mono ?_
        rintro e w4 ⟨T1, rfl, HT1, rfl⟩
        go_wp2_with fail
        refine (HD.out.2.1 w3 (((H0.out.2.2.2.2.2.new H2.out.2.1).new HX.out.2.2.2.2.2).new H3.out.2.2.2.2)).mono ?_
        rintro e w5 ⟨rfl, hn5⟩
        have HN5 := Lib.hid hn5
        have hT1 := HT1.out.1.pos
        rw [H3.out.2.2.1] at hT1
        clear hn5
        by_cases hq : hi = 0
        · obtain rfl : T1 = 0 := hT1.2 hq
          have HQ := Lib.hid hq
          clear hT1 hq
          go_wp2_with (at_builtin; refine wpList_app elemStrs rfl _ _ rfl rfl (own_chg (own_chg (own_chg HX.out.2.2.2.2.1 H3.out.2.2.2.2 (fun _ _ h => h)) HN5.out (fun _ _ h => h)) ((Chg.refl (fun _ => False) w5).alloc (.cells #[.string tx] 9)) (fun _ _ h => h)) rfl (rd_str rfl HD.out.2.2.1.symm) (strs_one _) (by simp only [maxLen]; omega) (by omega) (by have := HX.out.2.2.2.2.2.size; have := H3.out.2.2.2.2.size; have := HN5.out.size; simp; omega) ?_; intro A7 c7 w7 hown7 hg7 hat7; have HA7 := Lib.hid (And.intro hown7 (And.intro hg7 hat7)); clear hown7 hg7 hat7)
          go_roundw
          case rel =>
            refine ⟨_, 0, m, A7, k + 1, c7, hi, ps ++ [decDigits lo], rfl, rfl, by omega, ?_⟩
            have hst := str_last HX.out.2.1 hV0 (by have := HD.out.2.2.2.2.2; have := HQ.out; omega)
            rw [HD.out.2.2.2.2.1, ← HQ.out] at hst
            have hwm3 := HT1.out.1
            rw [H3.out.2.2.1] at hwm3
            exact S1.next HS.out H3.out.2.2.2.1 H3.out.2.2.2.2 hwm3 HN5.out HA7.out.1 HA7.out.2.1 hst (Txt.dec_len_pos _)
          case measure =>
            show (if 0 = 0 then 0 else 9000001 - (k + 1)) < (if m = 0 then 0 else 9000001 - k)
            rw [if_pos rfl, if_neg (by omega)]
            omega
        · have hT1p : (0 : Int) < (T1 : Int) := by
            rcases Nat.eq_zero_or_pos T1 with h | h
            · exact absurd (hT1.1 h) hq
            · omega
          have hT1p' : 0 < T1 := by omega
          have HQ := Lib.hid hq
          clear hT1 hq
          obtain ⟨cn, hcn⟩ : ∃ x, 9 - tx.size = x := ⟨_, rfl⟩
          have hcni : (9 : Int) - ((tx.size : Nat) : Int) = (cn : Int) := by omega
          have hcnb : cn ≤ 9 := by omega
          go_wp2_with fail
          refine (repeat_any cn hcnb w5).mono ?_
          rintro e w6 ⟨rfl, hn6⟩
          obtain ⟨zs, hzs⟩ : ∃ x, St (List.replicate cn 48) = x := ⟨_, rfl⟩
          rw [hzs]
          have hzss : zs.size = cn := by rw [← hzs, St_size]; simp
          have hsz : ¬ 9223372036854775807 < zs.size + tx.size := by omega
          have hcat : zs ++ tx = St (Txt.pad 9 lo) := by
            rw [← hzs, ← HD.out.2.2.1, St_app, ← hcn, HD.out.2.2.2.1, pad9 hlob]
          have H6 := Lib.hid (And.intro hn6 hcat)
          clear hn6 hzs hcn hcat hzss
          go_wp2_with (at_builtin; refine wpList_app elemStrs rfl _ _ rfl rfl (own_chg (own_chg (own_chg (own_chg HX.out.2.2.2.2.1 H3.out.2.2.2.2 (fun _ _ h => h)) HN5.out (fun _ _ h => h)) H6.out.1 (fun _ _ h => h)) ((Chg.refl (fun _ => False) w6).alloc (.cells #[.string (zs ++ tx)] 9)) (fun _ _ h => h)) rfl (rd_str rfl H6.out.2) (strs_one _) (by simp only [maxLen]; omega) (by omega) (by have := HX.out.2.2.2.2.2.size; have := H3.out.2.2.2.2.size; have := HN5.out.size; have := H6.out.1.size; simp; omega) ?_; intro A7 c7 w7 hown7 hg7 hat7; have HA7 := Lib.hid (And.intro hown7 (And.intro hg7 hat7)); clear hown7 hg7 hat7)
          go_roundw
          case rel =>
            refine ⟨_, T1, m, A7, k + 1, c7, hi, ps ++ [Txt.pad 9 lo], rfl, rfl, by have := HT1.out.2; omega, ?_⟩
            have hst := str_more HX.out.2.1 (by have := HD.out.2.2.2.2.2; have := HQ.out; omega)
            rw [HD.out.2.2.2.2.1, HD.out.2.2.2.2.2] at hst
            have hwm3 := HT1.out.1
            rw [H3.out.2.2.1] at hwm3
            exact S1.next HS.out H3.out.2.2.2.1 H3.out.2.2.2.2 hwm3 (HN5.out.new H6.out.1) HA7.out.1 HA7.out.2.1 hst (by rw [Txt.pad_len]; omega)
          case measure =>
            show (if T1 = 0 then 0 else 9000001 - (k + 1)) < (if m = 0 then 0 else 9000001 - k)
            rw [if_neg (by omega), if_neg (by omega)]
            omega
end Go.Proofs.YtbocpkjajocpiaaGreatDoor

namespace Go.Proofs.YtbocpkjajocpiaaGreatDoor
set_option linter.unusedVariables false
open Go.RowKit Go.Mem Go.Dig
open Go.Lib (decDigits)

def tpow (k : Nat) : Nat := 10 ^ k
/-- Texts of what is below this have at most 4934 bytes. -/
def dmax : Nat := tpow 4933
theorem pow_93 (k : Nat) : 2 ^ (93 * k) ≤ tpow (28 * k) := by
  unfold tpow
  rw [Nat.pow_mul, Nat.pow_mul]
  exact Nat.pow_le_pow_left (by decide) k
theorem tpow_add (a b : Nat) : tpow (a + b) = tpow a * tpow b := Nat.pow_add 10 a b
theorem powN_two (k m : Nat) (h : 32 * k = m) : powN k = 2 ^ m := by
  subst h
  unfold powN
  rw [Nat.pow_mul]
theorem pow_split (a b m : Nat) (h : a + b = m) : 2 ^ m = 2 ^ a * 2 ^ b := by subst h; exact Nat.pow_add 2 a b
theorem tpow_split (a b m : Nat) (h : a + b = m) : tpow m = tpow a * tpow b := by subst h; exact tpow_add a b
theorem top_gen (K J a m j : Nat) (h1 : 32 * K = m) (h2 : 93 * j + 16 = m) (h3 : 28 * j + 5 = J) : powN K + 10000 ≤ tpow J := by
  rw [powN_two K m h1, pow_split (93 * j) 16 m h2, tpow_split (28 * j) 5 J h3]
  have h := pow_93 j
  have hp : 1 ≤ 2 ^ (93 * j) := Nat.one_le_two_pow
  have e : tpow 5 = 100000 := rfl
  have e2 : (2 : Nat) ^ 16 = 65536 := rfl
  rw [e, e2]
  generalize 2 ^ (93 * j) = Y at *
  generalize tpow (28 * j) = X at *
  omega
theorem top_dmax : topN + 10000 ≤ dmax := top_gen 512 4933 0 16384 176 (by decide) (by decide) (by decide)
theorem text_short' {z : Int} {k : Nat} (h : z.natAbs < tpow k) (hk : 1 ≤ k) : (Txt.text z).length ≤ k + 1 := Txt.text_len hk h
theorem text_short {z : Int} (h : z.natAbs < dmax) : (Txt.text z).length ≤ 5000 := Nat.le_trans (text_short' (k := 4933) h (by decide)) (by decide)
end Go.Proofs.YtbocpkjajocpiaaGreatDoor

namespace Go.Proofs.YtbocpkjajocpiaaGreatDoor
set_option linter.unusedVariables false
open Go.RowKit Go.Mem Go.Dig

/-- Two variables that hold integers, in blocks of the call's own. -/
structure PwI (w wr : World) (B g1 g2 : Nat) (s1 : Bool) (A1 : Option Addr) (n1 c1 : Nat) (s2 : Bool) (A2 : Option Addr) (n2 c2 : Nat) (P Q : Nat) : Prop where
  res : Blk wr B 26 #[.bool false, .slice none 0 0]
  b1 : Blk wr g1 26 #[.bool s1, .slice A1 n1 c1]
  b2 : Blk wr g2 26 #[.bool s2, .slice A2 n2 c2]
  r1 : RN wr (.agg #[.bool s1, .slice A1 n1 c1]) (P : Int)
  r2 : RN wr (.agg #[.bool s2, .slice A2 n2 c2]) (Q : Int)
  new : New w wr
end Go.Proofs.YtbocpkjajocpiaaGreatDoor

namespace Go.Proofs.YtbocpkjajocpiaaGreatDoor
set_option linter.unusedVariables false
open Go.RowKit Go.Mem Go.Dig

end Go.Proofs.YtbocpkjajocpiaaGreatDoor

namespace Go.Proofs.YtbocpkjajocpiaaGreatDoor
set_option linter.unusedVariables false
open Go.RowKit Go.Mem Go.Dig

/-! ### the contracts with hidden facts -/
end Go.Proofs.YtbocpkjajocpiaaGreatDoor

namespace Go.Proofs.YtbocpkjajocpiaaGreatDoor
set_option linter.unusedVariables false
open Go.RowKit Go.Mem Go.Dig

end Go.Proofs.YtbocpkjajocpiaaGreatDoor

namespace Go.Txt
set_option linter.unusedVariables false
open Go.Dig

theorem decVal_split (t : List UInt8) (a z : Nat) (haz : a ≤ z) (hz : z ≤ t.length) : decVal (t.take z) = decVal (t.take a) * 10 ^ (z - a) + decVal ((t.drop a).take (z - a)) := by
  have h : t.take z = t.take a ++ (t.drop a).take (z - a) := by rw [← List.take_add]; congr 1; omega
  rw [h, decVal_append]
  congr 3
  simp; omega

/-- What the loop of the reference's Parse holds: the text t, the end z of what is left, the digits d so far. -/
def PrI (t : List UInt8) (z : Int) (d : List Nat) : Prop :=
  Digs 10000 d ∧ z = (t.length : Int) - 4 * (d.length : Int) ∧ val 10000 d + 10000 ^ d.length * decVal (t.take z.toNat) = decVal t
theorem PrI.start (t : List UInt8) : PrI t (t.length : Int) [] := by
  refine ⟨Digs.nil _, by simp, ?_⟩
  rw [Int.toNat_natCast, List.take_length]
  simp [val]
theorem PrI.step {t : List UInt8} {z : Nat} {d : List Nat} (ht : AllDig t) (h : PrI t z d) (hz : 0 < z) :
    PrI t ((z : Int) - 4) (d ++ [decVal ((t.drop (z - 4)).take (z - (z - 4)))]) := by
  obtain ⟨h1, h2, h3⟩ := h
  have hzl : z ≤ t.length := by omega
  have hv := decVal_split t (z - 4) z (by omega) hzl
  have hlt := decVal_lt ((ht.drop (z - 4)).take (z - (z - 4)))
  generalize hd : decVal ((t.drop (z - 4)).take (z - (z - 4))) = v at *
  have hvb : v < 10000 := by
    refine Nat.lt_of_lt_of_le hlt ?_
    exact Nat.le_trans (Nat.pow_le_pow_right (by omega) (show _ ≤ 4 by simp; omega)) (by decide)
  have hv2 : decVal (t.take z) = decVal (t.take (z - 4)) * 10000 + v := by
    by_cases h4 : 4 ≤ z
    · rw [hv, show z - (z - 4) = 4 by omega]
    · rw [hv, show z - 4 = 0 by omega, List.take_zero, decVal_nil]; omega
  refine ⟨h1.snoc hvb, by simp; omega, ?_⟩
  rw [Int.toNat_natCast, hv2] at h3
  rw [show ((z : Int) - 4).toNat = z - 4 by omega, val_snoc, ← h3, List.length_append, List.length_singleton, Nat.pow_succ]
  rw [Nat.mul_add, Nat.mul_assoc, Nat.add_assoc, Nat.mul_comm (decVal (t.take (z - 4))) 10000, Nat.add_comm (10000 ^ d.length * v)]
theorem PrI.done {t : List UInt8} {z : Int} {d : List Nat} (h : PrI t z d) (hz : z ≤ 0) : Digs 10000 d ∧ val 10000 d = decVal t := by
  obtain ⟨h1, h2, h3⟩ := h
  rw [show z.toNat = 0 by omega, List.take_zero, decVal_nil] at h3
  exact ⟨h1, by omega⟩
theorem PrI.len {t : List UInt8} {z : Int} {d : List Nat} (h : PrI t z d) (hz : -4 < z) : d.length ≤ t.length := by
  have := h.2.1
  omega
end Go.Txt

namespace Go.Proofs.YtbocpkjajocpiaaGreatDoor
set_option linter.unusedVariables false
open Go.RowKit Go.Mem Go.Dig

/-- What Parse returns for the text l. -/
def ParsR (l : List UInt8) (Z E : Int) : Prop := (∃ z, Txt.Reads l z ∧ rg z = Z ∧ rgE z = E) ∨ ((∀ z, ¬ Txt.Reads l z) ∧ Z = 0 ∧ E = 2)
theorem ParsR.ok {l : List UInt8} {Z E z : Int} (h : ParsR l Z E) (hz : Txt.Reads l z) : Z = rg z ∧ E = rgE z := by
  rcases h with ⟨z', h1, h2, h3⟩ | ⟨h, -⟩
  · have := h1.uniq hz
    subst this
    exact ⟨h2.symm, h3.symm⟩
  · exact absurd hz (h z)
end Go.Proofs.YtbocpkjajocpiaaGreatDoor

namespace Go.Proofs.YtbocpkjajocpiaaGreatDoor
set_option linter.unusedVariables false
open Go.RowKit Go.Mem Go.Dig

end Go.Proofs.YtbocpkjajocpiaaGreatDoor

namespace Go.Proofs.YtbocpkjajocpiaaGreatDoor
set_option linter.unusedVariables false
open Go.RowKit Go.Mem Go.Dig

theorem normal_h (A : Option Addr) (n c m : Nat) (W : World) (hm : DM W A n c m) :
    Calls Tryz.prog 72 #[.bool false, .slice A n c] W fun e w' => ∃ A n c, e = .returned (.agg #[.bool false, .slice A n c]) ∧ Hid (RN w' (.agg #[.bool false, .slice A n c]) (m : Int) ∧ New W w') := by
  obtain ⟨l, hr, h1, h2, hN⟩ := hm
  refine (normal_dm A n c l W hr hN.digs h1 h2).mono ?_
  rintro e w' ⟨T, rfl, hd, -, hn⟩
  rw [hN.val] at hd
  exact ⟨_, _, _, rfl, ⟨false, _, _, _, rfl, by simp, by simpa using hd⟩, hn⟩
theorem rdiv_h (v v' : Value) (x y : Int) (W : World) (hx : RN W v x) (hy : RN W v' y) (bx : x.natAbs < 2 ^ 1000000) (bY : y.natAbs < 2 ^ 900000) (h0 : y ≠ 0) :
    Calls Tryz.prog 103 #[v, v'] W fun e w' => ∃ s A n c s' A' n' c', e = .returned (.tuple #[.agg #[.bool s, .slice A n c], .agg #[.bool s', .slice A' n' c']]) ∧ Hid (RN w' (.agg #[.bool s, .slice A n c]) (x / y) ∧ RN w' (.agg #[.bool s', .slice A' n' c']) (x % y) ∧ New W w') :=
  (rdiv_any v v' x y W hx hy bx bY h0).mono fun e w' ⟨v, v', h1, ⟨s, A, n, c, h2, h3, h4⟩, ⟨s', A', n', c', h2', h3', h4'⟩, h5⟩ => ⟨s, A, n, c, s', A', n', c', by rw [h1, h2, h2'], ⟨s, A, n, c, rfl, h3, h4⟩, ⟨s', A', n', c', rfl, h3', h4'⟩, h5⟩
theorem pow_le900 {x k : Nat} (h : x < 2 ^ k) (m : Nat) (hk : k ≤ m) : x < 2 ^ m := Nat.lt_of_lt_of_le h (Nat.pow_le_pow_right (by omega) hk)
theorem RN.len0' {w : World} {s : Bool} {A : Option Addr} {n c : Nat} {z : Int} (h : RN w (.agg #[.bool s, .slice A n c]) z) : n = 0 ↔ z = 0 := by
  obtain ⟨s', A', n', c', he, hs, hm⟩ := h
  simp only [Value.agg.injEq, Array.mk.injEq, List.cons.injEq, Value.slice.injEq, Value.bool.injEq] at he
  obtain ⟨-, ⟨-, rfl, -⟩, -⟩ := he
  have := hm.pos
  omega

theorem RN.store22 {W : World} {v : Value} {z : Int} {g g' : Nat} {t t' : TypeId} {a b c d : Value} (hm : RN W v z) (h : Blk W g t #[a, b]) (h' : Blk W g' t' #[c, d]) (hne : g ≠ g') (hi : NoInt [a, b]) (hi' : NoInt [c, d]) (p q r u : Value) : RN (set22 W g g' p q r u) v z := by
  obtain ⟨s, A, n, k, h1, h2, h3⟩ := hm
  exact ⟨s, A, n, k, h1, h2, h3.store22 h h' hne hi hi' p q r u⟩

/-- What the loop of Gcd holds: the boxes g5, g6, and the one of the result. -/
def GcW (w : World) (g4 g5 g6 : Nat) (x y : Int) (k : Nat) (wr : World) : Prop :=
  ∃ s A n c s' A' n' c' X, Blk wr g5 26 #[.bool s, .slice A n c] ∧ RN wr (.agg #[.bool s, .slice A n c]) ((X : Nat) : Int) ∧ Blk wr g6 26 #[.bool s', .slice A' n' c'] ∧ RN wr (.agg #[.bool s', .slice A' n' c']) (k : Int) ∧
    Blk wr g4 26 #[.bool false, .slice none 0 0] ∧ New w wr ∧ X < 2 ^ 900000 ∧ k < 2 ^ 900000 ∧ Nat.gcd X k = Nat.gcd x.natAbs y.natAbs

set_option maxRecDepth 100000 in
set_option maxHeartbeats 1000000 in
theorem rgcd_any (v v' : Value) (x y : Int) (w : World) (hx : RN w v x) (hy : RN w v' y) (bx : x.natAbs < 2 ^ 900000) (bY : y.natAbs < 2 ^ 900000) :
    Calls Tryz.prog 102 #[v, v'] w fun e w' => ∃ s A n c, e = .returned (.agg #[.bool s, .slice A n c]) ∧ Hid (RN w' (.agg #[.bool s, .slice A n c]) ((Int.gcd x y : Nat) : Int) ∧ New w w') := by
  obtain ⟨s, A, n, c, rfl, hs, hm⟩ := hx
  obtain ⟨t, A', n', c', rfl, ht, hm'⟩ := hy
  have H0 := Lib.hid (And.intro hm (And.intro hm' (And.intro bx bY)))
  clear hs hm ht hm' bx bY
  go_enter Tryz.func102, Tryz.ntmps102
  go_wp2_with fail
  refine Calls.new3 ?_
  intro W hb2 hb3 hb4 hnW hzW
  obtain ⟨g2, hg2⟩ : ∃ x, w.heap.size = x := ⟨_, rfl⟩
  obtain ⟨g3, hg3⟩ : ∃ x, w.heap.size + 1 = x := ⟨_, rfl⟩
  obtain ⟨g4, hg4⟩ : ∃ x, w.heap.size + 1 + 1 = x := ⟨_, rfl⟩
  rw [hg3] at hb3
  rw [hg4] at hb4
  simp only [hg4]
  simp only [hg3]
  simp only [hg2]
  have HW := Lib.hid (And.intro hb3 (And.intro hb4 (And.intro hnW (show w.heap.size ≤ g4 by omega))))
  clear hb2 hb3 hb4 hnW hzW hg2 hg3 hg4
  refine (normal_h A n c x.natAbs W (H0.out.1.new HW.out.2.2.1)).mono ?_
  rintro e w1 ⟨A1, n1, c1, rfl, H1⟩
  have c31 := (HW.out.1.chg (H1.out.2.alloc (.cells #[.bool false, .slice A1 n1 c1] 26)) (fun h => h)).cell 1 (u := .slice A' n' c') rfl
  go_wp2_with fail
  clear c31
  refine Calls.new1 ?_
  intro W2 hb5 hn2 hz2
  obtain ⟨g5, hg5⟩ : ∃ x, w1.heap.size = x := ⟨_, rfl⟩
  rw [hg5] at hb5
  simp only [hg5]
  have hnw : New w W2 := (HW.out.2.2.1.new H1.out.2).new hn2
  refine (normal_h A' n' c' y.natAbs W2 (H0.out.2.1.new hnw)).mono ?_
  rintro e w3 ⟨A3, n3, c3, rfl, H3⟩
  have h45 : g4 < g5 := by
    have := (HW.out.2.1.chg H1.out.2 (fun h => h)).lt
    omega
  have HX := Lib.hid (And.intro hb5 (And.intro hn2 hnw))
  clear hb5 hn2 hz2 hg5 hnw
  go_wp2_with fail
  refine Code.new1 ?_
  intro W4 hb6 hn4 hz4
  obtain ⟨g6, hg6⟩ : ∃ x, w3.heap.size = x := ⟨_, rfl⟩
  rw [hg6] at hb6
  simp only [hg6]
  have h56 : g5 < g6 := by
    have := (HX.out.1.chg H3.out.2 (fun h => h)).lt
    omega
  have hN4 : New W2 W4 := H3.out.2.new hn4
  have hS : GcW w g4 g5 g6 x y y.natAbs W4 := ⟨_, _, _, _, _, _, _, _, x.natAbs, HX.out.1.chg hN4 (fun h => h), (H1.out.1.new HX.out.2.1).new hN4, hb6, H3.out.1.new hn4, HW.out.2.1.chg ((H1.out.2.new HX.out.2.1).new hN4) (fun h => h), HX.out.2.2.new hN4, H0.out.2.2.1, H0.out.2.2.2, rfl⟩
  have HS := Lib.hid hS
  have HG := Lib.hid (And.intro h45 (And.intro h56 HW.out.2.2.2))
  clear hS hb6 hn4 hz4 hg6 hN4 h45 h56 HX H1 H3 HW H0
  go_loopg [7, 8] y.natAbs (fun k _ _ wr => Hid (GcW w g4 g5 g6 x y k wr))
  case atStart => exact HS.out
  case round =>
    obtain ⟨wo, rfl⟩ : ∃ wo : World, wo = wr := ⟨_, rfl⟩
    obtain ⟨sa, Aa, na, ca, sb, Ab, nb, cb, X, hb5, hX, hb6, hk, hb4, hnw, bX, bk, hg⟩ := Hid.out hrel
    by_cases h0 : nb = 0
    · subst h0
      obtain rfl : gk = 0 := by have := hk.len0'; omega
      rw [Nat.gcd_zero_right] at hg
      have k60 := hb6.cell 1 (u := .slice Ab 0 cb) rfl
      have k50 := hb5.cell 0 (u := .bool sa) rfl
      have k51 := hb5.cell 1 (u := .slice Aa na ca) rfl
      have k40 := hb4.cell 0 rfl
      have k41 := hb4.cell 1 rfl
      have f40 := hb4.frozen 0
      have f41 := hb4.frozen 1
      have HK := Lib.hid (And.intro hb4 (And.intro hX (And.intro hnw hg)))
      clear hb4 hX hnw hg hb5 hb6 hk bX bk hrel
      go_wp2
      refine bodyPost_ret (res_c rfl _ rfl (aggN.load (HK.out.1.set2 _ _))) rfl ⟨sa, Aa, na, ca, rfl, ?_, ?_⟩
      · have := HK.out.2.1.store HK.out.1 (noInt_two' _ _ _ _) (Chg.at2 _ g4 (.bool sa) (.slice Aa na ca))
        rwa [HK.out.2.2.2] at this
      · exact Chg.owned HK.out.2.2.1 (Chg.at2 _ _ _ _) (fun k e => by have := HG.out; omega)
    · have hpos : (0 : Int) < (nb : Int) := by omega
      have hgk : (gk : Int) ≠ 0 := by have := hk.len0'; omega
      have hdv := rdiv_h _ _ _ _ wo hX hk (pow_le900 (k := 900000) bX 1000000 (by decide)) bk hgk
      have k60 := hb6.cell 0 (u := .bool sb) rfl
      have k61 := hb6.cell 1 (u := .slice Ab nb cb) rfl
      have k50 := hb5.cell 0 (u := .bool sa) rfl
      have k51 := hb5.cell 1 (u := .slice Aa na ca) rfl
      have HD := Lib.hid hdv
      have HK := Lib.hid (And.intro hb5 (And.intro hb6 (And.intro hb4 (And.intro hk (And.intro hnw (And.intro bk (And.intro hg (show 1 ≤ gk by omega))))))))
      clear hdv hb5 hb6 hb4 hX hk hnw bX bk hg hgk hrel h0
      go_wp2_with fail
      refine HD.out.mono ?_
      rintro e w5 ⟨s5, A5, n5, c5, s6, A6, n6, c6, rfl, H5⟩
      clear k60 k61 k50 k51 HD
      go_upto_region 5 with fail
      refine Code.new2 ?_
      intro W7 hb7 hb8 hn7 hz7
      obtain ⟨g7, hg7⟩ : ∃ x, w5.heap.size = x := ⟨_, rfl⟩
      obtain ⟨g8, hg8⟩ : ∃ x, w5.heap.size + 1 = x := ⟨_, rfl⟩
      rw [hg8] at hb8
      simp only [hg8]
      simp only [hg7]
      have hn07 : New wo W7 := H5.out.2.2.new hn7
      have hb5 := HK.out.1.chg hn07 (fun h => h)
      have hb6 := HK.out.2.1.chg hn07 (fun h => h)
      have h68 : g6 < g8 := by
        have := (HK.out.2.1.chg H5.out.2.2 (fun h => h)).lt
        omega
      obtain ⟨h45, h56, h4w⟩ := HG.out
      have k80 := hb8.cell 0 (u := .bool s6) rfl
      have k81 := hb8.cell 1 (u := .slice A6 n6 c6) rfl
      have k60 := hb6.cell 0 (u := .bool sb) rfl
      have k61 := hb6.cell 1 (u := .slice Ab nb cb) rfl
      have k50 := hb5.cell 0 (u := .bool sa) rfl
      have k51 := hb5.cell 1 (u := .slice Aa na ca) rfl
      have f50 := hb5.frozen 0
      have f51 := hb5.frozen 1
      have f60 := hb6.frozen 0
      have f61 := hb6.frozen 1
      have n56 : ¬ g5 = g6 := by omega
      have n65 : ¬ g6 = g5 := by omega
      have n58 : ¬ g5 = g8 := by omega
      have n85 : ¬ g8 = g5 := by omega
      have HL := Lib.hid (And.intro hb5 (And.intro hb6 (And.intro (H5.out.2.1.new hn7) hn07)))
      clear hb5 hb6 hb7 hb8 hn7 hz7 hg7 hg8 hn07 H5
      go_wp2
      go_roundg (X % gk)
      case measure => exact Nat.mod_lt _ HK.out.2.2.2.2.2.2.2
      case rel =>
        have hbb := blk22 HL.out.1 HL.out.2.1 n56 (.bool sb) (.slice Ab nb cb) (.bool s6) (.slice A6 n6 c6)
        have hch := chg22 W7 g5 g6 (.bool sb) (.slice Ab nb cb) (.bool s6) (.slice A6 n6 c6)
        have hr6 := HL.out.2.2.1
        rw [← Int.natCast_emod] at hr6
        refine ⟨sb, Ab, nb, cb, s6, A6, n6, c6, gk, hbb.1, (HK.out.2.2.2.1.new HL.out.2.2.2).store22 HL.out.1 HL.out.2.1 n56 (noInt_two' _ _ _ _) (noInt_two' _ _ _ _) _ _ _ _, hbb.2, hr6.store22 HL.out.1 HL.out.2.1 n56 (noInt_two' _ _ _ _) (noInt_two' _ _ _ _) _ _ _ _, ?_, ?_, HK.out.2.2.2.2.2.1, Nat.lt_trans (m := gk) (Nat.mod_lt _ HK.out.2.2.2.2.2.2.2) HK.out.2.2.2.2.2.1, ?_⟩
        · exact (HK.out.2.2.1.chg HL.out.2.2.2 (fun h => h)).chg hch (by omega)
        · exact Chg.owned (HK.out.2.2.2.2.1.new HL.out.2.2.2) hch (fun k e => by omega)
        · rw [← HK.out.2.2.2.2.2.2.1, Nat.gcd_comm X gk, Nat.gcd_rec gk X, Nat.gcd_comm]
end Go.Proofs.YtbocpkjajocpiaaGreatDoor

namespace Go.Proofs.YtbocpkjajocpiaaGreatDoor
set_option linter.unusedVariables false
open Go.RowKit Go.Mem Go.Dig Go.Pure

theorem pw900 (m : Nat) {k : Nat} (h : m < 2 ^ k) : m < 4294967296 ^ k :=
  Nat.lt_of_lt_of_le h (Nat.pow_le_pow_left (by omega) k)

set_option maxRecDepth 100000 in
set_option maxHeartbeats 1000000 in
theorem wgcd_any (v v' : Value) (x y : Int) (w : World) (hx : WI w v x) (hy : WI w v' y) (bx : x.natAbs < 2 ^ 900000) (bY : y.natAbs < 2 ^ 900000) :
    Calls Tryz.prog 100 #[v, v'] w fun e w' => ∃ s A n c, e = .returned (.agg #[.bool s, .slice A n c]) ∧ Hid (WI w' (.agg #[.bool s, .slice A n c]) ((Int.gcd x y : Nat) : Int) ∧ New w w') := by
  obtain ⟨s, A, n, c, rfl, hs, hm⟩ := hx
  obtain ⟨t, A', n', c', rfl, ht, hm'⟩ := hy
  have H0 := Lib.hid (And.intro hm (And.intro hm' (And.intro bx bY)))
  clear hs hm ht hm' bx bY
  go_enter Tryz.func100, Tryz.ntmps100
  go_upto_region 1 with fail
  refine Code.new3 ?_
  intro W hb1 hb2 hb3 hnW hzW
  have c20 := hb1.cell 1 (u := .slice A n c) rfl
  have c30 := hb2.cell 1 (u := .slice A' n' c') rfl
  have HW := Lib.hid (And.intro hb3 hnW)
  clear hb1 hb2 hb3 hnW hzW
  go_quiet (fail)
  clear c20 c30
  go_wp2_with fail
  go_loopg [5, 6, 7, 8] y.natAbs (fun k s5 s6 _ _ wr => ∃ (B : Option Addr) (m d : Nat) (B' : Option Addr) (m' d' : Nat), s5 = .slice B m d ∧ s6 = .slice B' m' d' ∧ Hid (∃ X, WM wr B m d X ∧ WM wr B' m' d' k ∧ X < 2 ^ 900000 ∧ k < 2 ^ 900000 ∧ Nat.gcd X k = Nat.gcd x.natAbs y.natAbs) ∧ Hid (New W wr))
  case atStart => exact ⟨A, n, c, A', n', c', rfl, rfl, ⟨x.natAbs, (H0.out.1.new HW.out.2).new ((Chg.refl _ _).drewN _), (H0.out.2.1.new HW.out.2).new ((Chg.refl _ _).drewN _), H0.out.2.2.1, H0.out.2.2.2, rfl⟩, (Chg.refl _ _).drewN _⟩
  case round =>
    obtain ⟨B, m, d, B', m', d', rfl, rfl, HI, HN⟩ := hrel
    obtain ⟨wo, rfl⟩ : ∃ wo : World, wo = wr := ⟨_, rfl⟩
    obtain ⟨X, hX, hk, bX, bk, hg⟩ := HI.out
    by_cases h0 : m' = 0
    · subst h0
      obtain rfl : gk = 0 := hk.pos.1 rfl
      rw [Nat.gcd_zero_right] at hg
      obtain ⟨l, hr, hnc, hcc, hNum⟩ := hX
      have hmade := made_wi false B m d l wo hr hNum.digs hnc hcc
      rw [hNum.val, hg] at hmade
      have HM := Lib.hid (hmade)
      have HB := HW.out.1.chg HN.out (fun h => h)
      clear hmade hr hnc hcc hNum hg hk HI bX bk
      go_wp2_with fail
      refine HM.out.mono ?_
      rintro e w5 ⟨v5, rfl, ⟨s5, A5, n5, c5, rfl, hs5, hm5⟩, hn5⟩
      have hb5 := HB.chg hn5 (fun h => h)
      have g0 := hb5.cell 0 rfl
      have g1 := hb5.cell 1 rfl
      have f0 := hb5.frozen 0
      have f1 := hb5.frozen 1
      have hw5 : WI w5 (.agg #[.bool s5, .slice A5 n5 c5]) ((Int.gcd x y : Nat) : Int) := ⟨s5, A5, n5, c5, rfl, hs5, hm5⟩
      have H5 := Lib.hid (And.intro hb5 (And.intro hw5 hn5))
      clear hb5 hw5 hs5 hm5 hn5 HM HB
      go_wp2
      refine bodyPost_ret (res_c rfl _ rfl (aggInt.load (H5.out.1.set2 _ _))) rfl ⟨s5, A5, n5, c5, rfl, H5.out.2.1.store H5.out.1 (noInt_two _ _ _ _) (Chg.at2 _ _ _ _), ?_⟩
      exact Chg.owned ((HW.out.2.new HN.out).new H5.out.2.2) (Chg.at2 _ _ _ _) (fun k e => by omega)
    · have hpos : (0 : Int) < (m' : Int) := by omega
      have hk0 : 1 ≤ gk := by have := hk.pos; omega
      have hdiv := divMag_any B m d B' m' d' X gk wo hX hk (hX.len (k := 900000) (pw900 (k := 900000) X bX)) hk0
      have HD := Lib.hid hdiv
      have HK := Lib.hid (And.intro hk (And.intro hk0 (And.intro bk hg)))
      clear hdiv hX hk hk0 bX bk hg HI h0
      go_wp2_with fail
      refine HD.out.mono ?_
      rintro e w5 ⟨Q, nq', cq, R, nr, cr, rfl, H5⟩
      go_wp2_with fail
      go_roundg (X % gk)
      case measure => exact Nat.mod_lt _ HK.out.2.1
      case rel =>
        refine ⟨B', m', d', R, nr, cr, rfl, rfl, ⟨gk, HK.out.1.new H5.out.2.2, H5.out.2.1, HK.out.2.2.1, Nat.lt_trans (m := gk) (Nat.mod_lt _ HK.out.2.1) HK.out.2.2.1, ?_⟩, HN.out.new H5.out.2.2⟩
        rw [← HK.out.2.2.2, Nat.gcd_comm X gk, Nat.gcd_rec gk X, Nat.gcd_comm]
end Go.Proofs.YtbocpkjajocpiaaGreatDoor

namespace Go.Proofs.YtbocpkjajocpiaaGreatDoor
set_option linter.unusedVariables false
open Go.RowKit Go.Mem Go.Dig Go.Fr

/-- A middle size. -/
def bp (k : Nat) : Nat := 2 ^ k
theorem lt_bp {z : Int} {k : Nat} (h : z.natAbs < bp k) : z.natAbs < 2 ^ k := h
theorem bp_le {j k : Nat} (h : j ≤ k) : bp j ≤ bp k := Nat.pow_le_pow_right (by omega) h
def Bd (z : Int) : Prop := z.natAbs < bp 900000
theorem Bd.p9 {z : Int} (h : Bd z) : z.natAbs < 2 ^ 900000 := lt_bp (k := 900000) h
theorem Bd.p10 {z : Int} (h : Bd z) : z.natAbs < 2 ^ 1000000 := lt_bp (k := 1000000) (Nat.lt_of_lt_of_le h (bp_le (by omega)))
theorem Bd.of {z : Int} {k : Nat} (h : z.natAbs < bp k) (hk : k ≤ 900000) : Bd z := Nat.lt_of_lt_of_le h (bp_le hk)

def wiT (z : Int) : Ty := ⟨fun v w => WI w v z, fun h hn => h.new hn, fun h hb hi hc => h.store hb hi hc⟩
def rnT (z : Int) : Ty := ⟨fun v w => RN w v z, fun h hn => h.new hn, fun h hb hi hc => h.store hb hi hc⟩
/-- A fraction of the program: a denominator 0 stands for 1. -/
def FI (w : World) (v : Value) (x : Rat) : Prop := ∃ p q : Array Value, v = .agg (p ++ q) ∧ WI w (.agg p) x.num ∧ (WI w (.agg q) (dn x) ∨ (WI w (.agg q) 0 ∧ dn x = 1))
/-- A fraction of the reference. -/
def RF (w : World) (v : Value) (x : Rat) : Prop := ∃ p q : Array Value, v = .agg (p ++ q) ∧ RN w (.agg p) x.num ∧ RN w (.agg q) (dn x)
def fiT (x : Rat) : Ty := ⟨fun v w => FI w v x, fun ⟨p, q, h1, h2, h3⟩ hn => ⟨p, q, h1, h2.new hn, h3.imp (·.new hn) (fun h => ⟨h.1.new hn, h.2⟩)⟩, fun ⟨p, q, h1, h2, h3⟩ hb hi hc => ⟨p, q, h1, h2.store hb hi hc, h3.imp (·.store hb hi hc) (fun h => ⟨h.1.store hb hi hc, h.2⟩)⟩⟩
def rfT (x : Rat) : Ty := ⟨fun v w => RF w v x, fun ⟨p, q, h1, h2, h3⟩ hn => ⟨p, q, h1, h2.new hn, h3.new hn⟩, fun ⟨p, q, h1, h2, h3⟩ hb hi hc => ⟨p, q, h1, h2.store hb hi hc, h3.store hb hi hc⟩⟩
theorem wi_cells {w : World} {v : Value} {z : Int} (h : WI w v z) : ∃ s A n c, v = .agg #[.bool s, .slice A n c] := by
  obtain ⟨s, A, n, c, h1, _⟩ := h
  exact ⟨s, A, n, c, h1⟩
theorem rn_cells {w : World} {v : Value} {z : Int} (h : RN w v z) : ∃ s A n c, v = .agg #[.bool s, .slice A n c] := by
  obtain ⟨s, A, n, c, h1, _⟩ := h
  exact ⟨s, A, n, c, h1⟩
theorem FI.form {w : World} {v : Value} {x : Rat} (h : FI w v x) : ∃ s A n c s' A' n' c', v = .agg #[.bool s, .slice A n c, .bool s', .slice A' n' c'] ∧ WI w (.agg #[.bool s, .slice A n c]) x.num ∧ (WI w (.agg #[.bool s', .slice A' n' c']) (dn x) ∨ (WI w (.agg #[.bool s', .slice A' n' c']) 0 ∧ dn x = 1)) := by
  obtain ⟨p, q, rfl, h1, h2⟩ := h
  obtain ⟨s, A, n, c, hp⟩ := wi_cells h1
  have hq : ∃ s A n c, Value.agg q = .agg #[.bool s, .slice A n c] := by
    rcases h2 with h2 | h2
    · exact wi_cells h2
    · exact wi_cells h2.1
  obtain ⟨s', A', n', c', hq⟩ := hq
  injection hp with hp
  injection hq with hq
  subst hp hq
  exact ⟨s, A, n, c, s', A', n', c', rfl, h1, h2⟩
theorem RF.form {w : World} {v : Value} {x : Rat} (h : RF w v x) : ∃ s A n c s' A' n' c', v = .agg #[.bool s, .slice A n c, .bool s', .slice A' n' c'] ∧ RN w (.agg #[.bool s, .slice A n c]) x.num ∧ RN w (.agg #[.bool s', .slice A' n' c']) (dn x) := by
  obtain ⟨p, q, rfl, h1, h2⟩ := h
  obtain ⟨s, A, n, c, hp⟩ := rn_cells h1
  obtain ⟨s', A', n', c', hq⟩ := rn_cells h2
  injection hp with hp
  injection hq with hq
  subst hp hq
  exact ⟨s, A, n, c, s', A', n', c', rfl, h1, h2⟩
theorem aggF : Agg Tryz.prog 52 4 := ⟨_, Tryz.underlying52, rfl, by kernel_rfl⟩
theorem aggRF : Agg Tryz.prog 57 4 := ⟨_, Tryz.underlying57, rfl, by kernel_rfl⟩

/-! ### contracts by types -/
section
variable {w : World} {v v' : Value} {x y z : Int}
theorem t_from (n : Int) (h1 : -9223372036854775808 ≤ n) (h2 : n ≤ 9223372036854775807) : CT Tryz.prog 50 #[.int .i64 n] w (wiT n) := from_any n w h1 h2
theorem t_wneg (h : WI w v x) : CT Tryz.prog 99 #[v] w (wiT (-x)) := neg_any v x w h
theorem t_wsign (h : WI w v x) : CT Tryz.prog 24 #[v] w (Ty.eq (.int .i64 (cmpI x 0))) := (sign_any v x w h).mono fun e w' ⟨h1, h2⟩ => ⟨_, h1, rfl, h2⟩
theorem t_wcompare (h : WI w v x) (h' : WI w v' y) : CT Tryz.prog 25 #[v, v'] w (Ty.eq (.int .i64 (cmpI x y))) := (compare_any v v' x y w h h').mono fun e w' ⟨h1, h2⟩ => ⟨_, h1, rfl, h2⟩
theorem t_wmul (h : WI w v x) (h' : WI w v' y) (bx : Bd x) (bY : Bd y) : CT Tryz.prog 129 #[v, v'] w ((wiT (rg (x * y))).tup1 (.int .i64 (rgE (x * y)))) :=
  (wmul_any v v' x y w h h' bx.p10 bY.p10).mono fun e w' ⟨s, A, n, c, h1, h2⟩ => ⟨_, h1, ⟨_, rfl, h2.out.1⟩, h2.out.2⟩
theorem t_wadd (h : WI w v x) (h' : WI w v' y) (bx : Bd x) (bY : Bd y) : CT Tryz.prog 62 #[v, v'] w ((wiT (rg (x + y))).tup1 (.int .i64 (rgE (x + y)))) :=
  (wadd_any v v' x y w h h' bx.p10 bY.p10).mono fun e w' ⟨s, A, n, c, h1, h2⟩ => ⟨_, h1, ⟨_, rfl, h2.out.1⟩, h2.out.2⟩
theorem t_wdiv (h : WI w v x) (h' : WI w v' y) (bx : Bd x) (bY : Bd y) (h0 : y ≠ 0) : CT Tryz.prog 81 #[v, v'] w ((wiT (x / y)).tup2 (wiT (x % y)) (.int .i64 0)) :=
  (wdiv_any v v' x y w h h' bx.p9 bY.p9 h0).mono fun e w' ⟨s, A, n, c, s', A', n', c', h1, h2⟩ => ⟨_, h1, ⟨_, _, rfl, h2.out.1, h2.out.2.1⟩, h2.out.2.2⟩
theorem t_wgcd (h : WI w v x) (h' : WI w v' y) (bx : Bd x) (bY : Bd y) : CT Tryz.prog 100 #[v, v'] w (wiT ((Int.gcd x y : Nat) : Int)) :=
  (wgcd_any v v' x y w h h' bx.p9 bY.p9).mono fun e w' ⟨s, A, n, c, h1, h2⟩ => ⟨_, h1, h2.out.1, h2.out.2⟩
theorem t_wsmall (h : WI w v x) : CT Tryz.prog 108 #[v] w (Ty.eq (.tuple #[.int .i64 (intIf x), .bool (isInt x)])) := (wsmall_any v x w h).mono fun e w' ⟨h1, h2⟩ => ⟨_, h1, rfl, h2⟩
theorem t_wstring (h : WI w v z) (hpt : PowTab w) (hz : Bd z) : CT Tryz.prog 23 #[v] w (Ty.eq (.string (St (Txt.text z)))) := (wstring_any v z w h hpt hz.p9).mono fun e w' ⟨h1, h2⟩ => ⟨_, h1, rfl, h2⟩
theorem t_of (n : Int) (h1 : -9223372036854775808 ≤ n) (h2 : n ≤ 9223372036854775807) : CT Tryz.prog 15 #[.int .i64 n] w (rnT n) := of_any n w h1 h2
theorem t_rneg (h : RN w v x) : CT Tryz.prog 14 #[v] w (rnT (-x)) := rneg_any v x w h
theorem t_radd (h : RN w v x) (h' : RN w v' y) (bx : Bd x) (bY : Bd y) : CT Tryz.prog 71 #[v, v'] w (rnT (x + y)) := radd_any v v' x y w h h' bx.p10 bY.p10
theorem t_rmul (h : RN w v x) (h' : RN w v' y) (bx : Bd x) (bY : Bd y) : CT Tryz.prog 18 #[v, v'] w (rnT (x * y)) := rmul_any v v' x y w h h' bx.p10 bY.p10
/-- A pair. -/
def prT (a b : Ty) : Ty := ⟨fun v w => ∃ x y, v = .tuple #[x, y] ∧ a.sat x w ∧ b.sat y w, fun ⟨x, y, h1, h2, h3⟩ hn => ⟨x, y, h1, a.new h2 hn, b.new h3 hn⟩, fun ⟨x, y, h1, h2, h2'⟩ h3 h4 h5 => ⟨x, y, h1, a.st h2 h3 h4 h5, b.st h2' h3 h4 h5⟩⟩
theorem t_rdiv (h : RN w v x) (h' : RN w v' y) (bx : Bd x) (bY : Bd y) (h0 : y ≠ 0) : CT Tryz.prog 103 #[v, v'] w (prT (rnT (x / y)) (rnT (x % y))) :=
  (rdiv_any v v' x y w h h' bx.p10 bY.p9 h0).mono fun e w' ⟨v, v', h1, h2, h3, h4⟩ => ⟨_, h1, ⟨_, _, rfl, h2, h3⟩, h4⟩
theorem t_rgcd (h : RN w v x) (h' : RN w v' y) (bx : Bd x) (bY : Bd y) : CT Tryz.prog 102 #[v, v'] w (rnT ((Int.gcd x y : Nat) : Int)) :=
  (rgcd_any v v' x y w h h' bx.p9 bY.p9).mono fun e w' ⟨s, A, n, c, h1, h2⟩ => ⟨_, h1, h2.out.1, h2.out.2⟩
theorem t_rtext (h : RN w v z) (hz : Bd z) : CT Tryz.prog 20 #[v] w (Ty.eq (.string (St (Txt.text z)))) := (rtext_any v z w h hz.p10).mono fun e w' ⟨h1, h2⟩ => ⟨_, h1, rfl, h2⟩
theorem t_wparse (b : ByteArray) (l : List UInt8) (hb : b = St l) (hn : b.size ≤ 5000) (Z E : Int) (hr : ParsR l Z E) : CT Tryz.prog 19 #[.string b] w ((wiT Z).tup1 (.int .i64 E)) := by
  rcases hr with ⟨z, h1, rfl, rfl⟩ | ⟨h1, rfl, rfl⟩
  · exact (wparse_ok b l hb hn z h1 w).mono fun e w' ⟨s, A, n, c, h1, h2⟩ => ⟨_, h1, ⟨_, rfl, h2.out.1⟩, h2.out.2⟩
  · exact (wparse_bad b l hb hn h1 w).mono fun e w' ⟨h1, h2⟩ => ⟨_, h1, ⟨_, rfl, WI.zero w'⟩, h2⟩
end
end Go.Proofs.YtbocpkjajocpiaaGreatDoor

namespace Go.Proofs.YtbocpkjajocpiaaGreatDoor
set_option linter.unusedVariables false
open Go.RowKit Go.Mem Go.Dig Go.Fr
theorem FI.zero (w : World) : FI w (.agg #[.bool false, .slice none 0 0, .bool false, .slice none 0 0]) 0 := ⟨#[.bool false, .slice none 0 0], #[.bool false, .slice none 0 0], rfl, WI.zero w, .inr ⟨WI.zero w, rfl⟩⟩
theorem zeroI (w : World) : (zeroValue 35).run Tryz.prog w = .ok (.agg #[.bool false, .slice none 0 0]) w := by kernel_rfl
theorem zeroN (w : World) : (zeroValue 26).run Tryz.prog w = .ok (.agg #[.bool false, .slice none 0 0]) w := by kernel_rfl
theorem zeroF (w : World) : (zeroValue 52).run Tryz.prog w = .ok (.agg #[.bool false, .slice none 0 0, .bool false, .slice none 0 0]) w := by kernel_rfl
theorem zeroRF (w : World) : (zeroValue 57).run Tryz.prog w = .ok (.agg #[.bool false, .slice none 0 0, .bool false, .slice none 0 0]) w := by kernel_rfl
section
variable {w : World} {u v : Value} {x y : Int} {r : Rat}
theorem build_f0 : ∃ v, (Instr.build 52 #[]).run Tryz.prog w = .ok v w ∧ (fiT 0).sat v w := ⟨_, by kernel_rfl, FI.zero w⟩
theorem build_f (hu : WI w u r.num) (hv : WI w v (dn r)) : ∃ b, (Instr.build 52 #[(0, u), (1, v)]).run Tryz.prog w = .ok b w ∧ (fiT r).sat b w := by
  obtain ⟨s, A, n, c, rfl⟩ := wi_cells hu
  obtain ⟨s', A', n', c', rfl⟩ := wi_cells hv
  exact ⟨.agg #[.bool s, .slice A n c, .bool s', .slice A' n' c'], by kernel_rfl, #[.bool s, .slice A n c], #[.bool s', .slice A' n' c'], rfl, hu, .inl hv⟩
theorem build_fz (hu : WI w u r.num) (hv : WI w v 0) (h1 : dn r = 1) : ∃ b, (Instr.build 52 #[(0, u), (1, v)]).run Tryz.prog w = .ok b w ∧ (fiT r).sat b w := by
  obtain ⟨s, A, n, c, rfl⟩ := wi_cells hu
  obtain ⟨s', A', n', c', rfl⟩ := wi_cells hv
  exact ⟨.agg #[.bool s, .slice A n c, .bool s', .slice A' n' c'], by kernel_rfl, #[.bool s, .slice A n c], #[.bool s', .slice A' n' c'], rfl, hu, .inr ⟨hv, h1⟩⟩
theorem build_rf (hu : RN w u r.num) (hv : RN w v (dn r)) : ∃ b, (Instr.build 57 #[(0, u), (1, v)]).run Tryz.prog w = .ok b w ∧ (rfT r).sat b w := by
  obtain ⟨s, A, n, c, rfl⟩ := rn_cells hu
  obtain ⟨s', A', n', c', rfl⟩ := rn_cells hv
  exact ⟨.agg #[.bool s, .slice A n c, .bool s', .slice A' n' c'], by kernel_rfl, #[.bool s, .slice A n c], #[.bool s', .slice A' n' c'], rfl, hu, hv⟩
theorem fld_f0 (g : Nat) : (Instr.fieldAt 52 (.pointer (some ⟨g, 0, none⟩)) 0).run Tryz.prog w = .ok (.pointer (some ⟨g, 0, none⟩)) w := run_field (sz := 2) Tryz.underlying52 rfl rfl (by kernel_rfl) rfl
theorem fld_f1 (g : Nat) : (Instr.fieldAt 52 (.pointer (some ⟨g, 0, none⟩)) 1).run Tryz.prog w = .ok (.pointer (some ⟨g, 2, none⟩)) w := run_field (sz := 2) Tryz.underlying52 rfl rfl (by kernel_rfl) rfl
theorem fld_r0 (g : Nat) : (Instr.fieldAt 57 (.pointer (some ⟨g, 0, none⟩)) 0).run Tryz.prog w = .ok (.pointer (some ⟨g, 0, none⟩)) w := run_field (sz := 2) Tryz.underlying57 rfl rfl (by kernel_rfl) rfl
theorem fld_r1 (g : Nat) : (Instr.fieldAt 57 (.pointer (some ⟨g, 0, none⟩)) 1).run Tryz.prog w = .ok (.pointer (some ⟨g, 2, none⟩)) w := run_field (sz := 2) Tryz.underlying57 rfl rfl (by kernel_rfl) rfl
theorem two_cells {w : World} {g k : Nat} {t : TypeId} {cs : Array Value} (hb : Blk w g t cs) {a b : Value} (h0 : cs[k]? = some a) (h1 : cs[k + 1]? = some b) : ∀ j z, [a, b][j]? = some z → w.cell? ((⟨g, k, none⟩ : Addr).add j) = some z := by
  refine blk_cells hb _ (fun j z hz => ?_)
  match j, hz with
  | 0, hz => simp at hz; rw [← hz]; exact h0
  | 1, hz => simp at hz; rw [← hz]; exact h1
  | j + 2, hz => simp at hz
theorem ld_num {g : Nat} (h : FI w u r) (K : Blk w g 52 u.cells) : ∃ v, (loadVar 35 ⟨g, 0, none⟩).run Tryz.prog w = .ok v w ∧ (wiT r.num).sat v w := by
  obtain ⟨s, A, n, c, s', A', n', c', rfl, h1, h2⟩ := FI.form h
  exact ⟨_, load_cells aggInt [.bool s, .slice A n c] rfl (two_cells K rfl rfl), h1⟩
theorem ld_rP {g : Nat} (h : RF w u r) (K : Blk w g 57 u.cells) : ∃ v, (loadVar 26 ⟨g, 0, none⟩).run Tryz.prog w = .ok v w ∧ (rnT r.num).sat v w := by
  obtain ⟨s, A, n, c, s', A', n', c', rfl, h1, h2⟩ := RF.form h
  exact ⟨_, load_cells aggN [.bool s, .slice A n c] rfl (two_cells K rfl rfl), h1⟩
theorem ld_rQ {g : Nat} (h : RF w u r) (K : Blk w g 57 u.cells) : ∃ v, (loadVar 26 ⟨g, 2, none⟩).run Tryz.prog w = .ok v w ∧ (rnT (dn r)).sat v w := by
  obtain ⟨s, A, n, c, s', A', n', c', rfl, h1, h2⟩ := RF.form h
  exact ⟨_, load_cells aggN [.bool s', .slice A' n' c'] rfl (two_cells K rfl rfl), h2⟩
end
end Go.Proofs.YtbocpkjajocpiaaGreatDoor

namespace Go.Proofs.YtbocpkjajocpiaaGreatDoor
set_option linter.unusedVariables false
open Go.RowKit Go.Mem Go.Dig Go.Fr Go.Col

theorem Bd.neg {z : Int} (h : Bd z) : Bd (-z) := by unfold Bd at *; omega
theorem gcd_bd {p q : Int} (h : Bd q) (h0 : q ≠ 0) : Bd ((Int.gcd p q : Nat) : Int) := by
  have h1 := Int.gcd_le_natAbs_right p h0
  unfold Bd at *
  omega
def mkE (q : Int) : Int := if q = 0 then 1 else 0
def mkV (p q : Int) : Rat := if q = 0 then 0 else Rat.divInt p q
theorem fit.bd {z : Int} (h : fit z) : Bd z := by
  obtain ⟨K, hK⟩ : ∃ K, K = 512 := ⟨_, rfl⟩
  have e : powN K = bp (32 * K) := by unfold powN bp; rw [Nat.pow_mul]
  refine Bd.of (k := 32 * K) ?_ (by omega)
  unfold fit at h
  rwa [show topN = powN 512 from rfl, ← hK, e] at h
def FD (w : World) (v : Value) (x : Rat) (z : Int) : Prop := ∃ p q : Array Value, v = .agg (p ++ q) ∧ WI w (.agg p) x.num ∧ WI w (.agg q) z ∧ (z = 0 → dn x = 1)
theorem FD.form {w : World} {v : Value} {x : Rat} {z : Int} (h : FD w v x z) : ∃ s A n c s' A' n' c', v = .agg #[.bool s, .slice A n c, .bool s', .slice A' n' c'] ∧ WI w (.agg #[.bool s, .slice A n c]) x.num ∧ WI w (.agg #[.bool s', .slice A' n' c']) z := by
  obtain ⟨p, q, rfl, h1, h2, _⟩ := h
  obtain ⟨s, A, n, c, hp⟩ := wi_cells h1
  obtain ⟨s', A', n', c', hq⟩ := wi_cells h2
  injection hp with hp
  injection hq with hq
  subst hp hq
  exact ⟨s, A, n, c, s', A', n', c', rfl, h1, h2⟩
theorem FD.one {w : World} {v : Value} {x : Rat} (h : FD w v x 0) : dn x = 1 := by
  obtain ⟨p, q, _, _, _, h4⟩ := h
  exact h4 rfl
theorem fit.div {a b : Int} (h : fit a) : fit (a / b) := Nat.lt_of_le_of_lt (ediv_le a b) h
theorem fit.add_bd {a b : Int} (h : fit a) (h' : fit b) : Bd (a + b) := by
  obtain ⟨K, hK⟩ : ∃ K, K = 512 := ⟨_, rfl⟩
  have e : powN K = bp (32 * K) := by unfold powN bp; rw [Nat.pow_mul]
  have e2 : bp (32 * K + 1) = bp (32 * K) * 2 := by unfold bp; rw [Nat.pow_succ]
  refine Bd.of (k := 32 * K + 1) ?_ (by omega)
  unfold fit at h h'
  rw [show topN = powN 512 from rfl, ← hK, e] at h h'
  omega
def gh (x y : Rat) : Int := ((Int.gcd x.num (dn y) : Nat) : Int)
theorem gh_ne (x y : Rat) : gh x y ≠ 0 := gcd_ne (by have := dn_pos y; omega)
theorem mul_mk (x y : Rat) : Rat.divInt (x * y).num (dn (x * y)) = x * y := mk_self _
theorem cmpI_ne0 {z : Int} (h : ¬ z = 0) : (cmpI z 0 == 0) = false := by
  rcases Int.lt_trichotomy z 0 with h1 | h1 | h1
  · rw [cmpI_lt h1]; rfl
  · exact absurd h1 h
  · rw [cmpI_gt h1]; rfl
def ftx (x : Rat) : List UInt8 := if dn x = 1 then Txt.text x.num else Txt.text x.num ++ 47 :: Txt.text (dn x)
theorem run_adds {P : Program} {w : World} (t : TypeId) (a b : ByteArray) (h : ¬ 9223372036854775807 < a.size + b.size) : (binOp .add t (.string a) (.string b)).run P w = .ok (.string (a ++ b)) w := by
  simp [binOp, go_sem, h]
theorem cmp_one {z : Int} (h : ¬ z = 1) : (cmpI z 1 == 0) = false := by
  rcases Int.lt_trichotomy z 1 with h1 | h1 | h1
  · rw [cmpI_lt h1]; rfl
  · exact absurd h1 h
  · rw [cmpI_gt h1]; rfl
theorem ft_short {z : Int} (h : fit z) : (St (Txt.text z)).size ≤ 5000 := by
  rw [St_size]
  exact text_short (Nat.lt_of_lt_of_le h (Nat.le_trans (Nat.le_add_right _ _) top_dmax))
theorem ftx_app {x : Rat} (h : ¬ dn x = 1) : St (Txt.text x.num) ++ { data := #[47] } ++ St (Txt.text (dn x)) = St (ftx x) := by
  unfold ftx
  rw [if_neg h]
  apply ByteArray.ext
  simp [St]
theorem Bd.le {a b : Int} (h : Bd b) (hab : a.natAbs ≤ b.natAbs) : Bd a := Nat.lt_of_le_of_lt hab h
theorem sgn_mul {s c : Int} (h : s = 1 ∨ s = -1) (h' : -2 ≤ c ∧ c ≤ 2) : IntKind.i64.wrap (s * c) = s * c := by
  rcases h with rfl | rfl <;> exact IntWalk.i64_in _ (by omega)
theorem sgn_neg {s : Int} (h : s = 1 ∨ s = -1) : IntKind.i64.wrap (-s) = -s := by
  rcases h with rfl | rfl <;> exact IntWalk.i64_in _ (by omega)
theorem rnd_lt {a q : Int} {n : Nat} (h : a < q) (h0 : 0 ≤ a) (hn : q.toNat = n) : a.toNat < n := by omega
theorem rnd_pos {a : Int} (h : 0 ≤ a) (h0 : ¬ a = 0) : 0 < a := by omega
theorem rnd_sgn {s : Int} (h : s = 1 ∨ s = -1) : -s = 1 ∨ -s = -1 := by omega
theorem rnd_cf {σ p q r s c : Int} (h : σ * cmpI (p * s) (r * q) = c) : -σ * cmpI (q * r) (s * p) = c := by
  rw [← h, cf_turn p r q s, Int.neg_mul, Int.mul_neg]
theorem cmp_rng (x y : Int) : -1 ≤ cmpI x y ∧ cmpI x y ≤ 1 := by
  unfold cmpI
  split
  · omega
  · split <;> omega
theorem cmp_ne {x y : Int} (h : ¬ x = y) : (cmpI x y == 0) = false := by
  rcases Int.lt_trichotomy x y with h1 | h1 | h1
  · rw [cmpI_lt h1]; rfl
  · exact absurd h1 h
  · rw [cmpI_gt h1]; rfl
theorem FI.fd {w : World} {v : Value} {x : Rat} (h : FI w v x) : FD w v x (dn x) ∨ FD w v x 0 := by
  obtain ⟨p, q, h1, h2, h3⟩ := h
  rcases h3 with h3 | ⟨h3, h4⟩
  · exact .inl ⟨p, q, h1, h2, h3, fun h => by have := dn_pos x; omega⟩
  · exact .inr ⟨p, q, h1, h2, h3, fun _ => h4⟩
theorem ld_fd {w : World} {u : Value} {r : Rat} {z : Int} {g : Nat} (h : FD w u r z) (K : Blk w g 52 u.cells) : ∃ v, (loadVar 35 ⟨g, 2, none⟩).run Tryz.prog w = .ok v w ∧ (wiT z).sat v w := by
  obtain ⟨s, A, n, c, s', A', n', c', rfl, h1, h2⟩ := FD.form h
  exact ⟨_, load_cells aggInt [.bool s', .slice A' n' c'] rfl (two_cells K rfl rfl), h2⟩
theorem FD.fi {w : World} {v : Value} {x : Rat} {z : Int} (h : FD w v x z) (hz : z = dn x ∨ (z = 0 ∧ dn x = 1)) : FI w v x := by
  obtain ⟨p, q, h1, h2, h3, _⟩ := h
  refine ⟨p, q, h1, h2, ?_⟩
  rcases hz with rfl | ⟨rfl, h4⟩
  · exact .inl h3
  · exact .inr ⟨h3, h4⟩
theorem ld_fdn {w : World} {u : Value} {r : Rat} {z : Int} {g : Nat} (h : FD w u r z) (K : Blk w g 52 u.cells) : ∃ v, (loadVar 35 ⟨g, 0, none⟩).run Tryz.prog w = .ok v w ∧ (wiT r.num).sat v w := by
  obtain ⟨s, A, n, c, s', A', n', c', rfl, h1, h2⟩ := FD.form h
  exact ⟨_, load_cells aggInt [.bool s, .slice A n c] rfl (two_cells K rfl rfl), h1⟩
theorem build_fd {w : World} {u v : Value} {r : Rat} {z : Int} (hu : WI w u r.num) (hv : WI w v z) (hz : z = dn r ∨ (z = 0 ∧ dn r = 1)) : ∃ b, (Instr.build 52 #[(0, u), (1, v)]).run Tryz.prog w = .ok b w ∧ (fiT r).sat b w := by
  rcases hz with rfl | ⟨rfl, h1⟩
  · exact build_f hu hv
  · exact build_fz hu hv h1
theorem wi_bar (l : List Nat) : nv .u32 l = [] ∨ ∃ x ∈ nv .u32 l, NB x = true := by
  cases l with
  | nil => exact .inl rfl
  | cons x l => exact .inr ⟨_, List.mem_cons_self, rfl⟩
theorem rn_bar {l : List Nat} (h : Dig.Trim l) : nv .i64 l = [] ∨ ∃ x ∈ nv .i64 l, NB x = true := by
  by_cases hl : l = []
  · subst hl; exact .inl rfl
  · refine .inr ⟨Value.int .i64 ((l.getLast hl : Nat) : Int), List.mem_map.2 ⟨_, List.getLast_mem hl, rfl⟩, ?_⟩
    have h1 : l.getLast hl ≠ 0 := fun e => h (by rw [List.getLast?_eq_some_getLast hl, e])
    show (((l.getLast hl : Nat) : Int) != 0) = true
    simp; omega
section
variable {S : List Nat} {w w' : World} {c c' : Colr} {v : Value} {z : Int} {x : Rat}
theorem wi_ext (h : WI w v z) (g : GI w c) (e : Ext S w c w' c') : WI w' v z := by
  obtain ⟨s, A, n, cp, h1, h2, l, h3, h4⟩ := h
  exact ⟨s, A, n, cp, h1, h2, l, rd_ext h3 (wi_bar l) g e, h4⟩
theorem rn_ext (h : RN w v z) (g : GI w c) (e : Ext S w c w' c') : RN w' v z := by
  obtain ⟨s, A, n, cp, h1, h2, l, h3, h4⟩ := h
  exact ⟨s, A, n, cp, h1, h2, l, rd_ext h3 (rn_bar h4.2.2.trim) g e, h4⟩
theorem fi_ext (h : FI w v x) (g : GI w c) (e : Ext S w c w' c') : FI w' v x := by
  obtain ⟨p, q, h1, h2, h3⟩ := h
  exact ⟨p, q, h1, wi_ext h2 g e, h3.imp (fun h => wi_ext h g e) (fun h => ⟨wi_ext h.1 g e, h.2⟩)⟩
theorem rf_ext (h : RF w v x) (g : GI w c) (e : Ext S w c w' c') : RF w' v x := by
  obtain ⟨p, q, h1, h2, h3⟩ := h
  exact ⟨p, q, h1, rn_ext h2 g e, rn_ext h3 g e⟩
end
/-- An integer in range; of a middle size. -/
def wfC (z : Int) : TyC := ⟨fun v w _ => WI w v z ∧ fit z, fun h g e => ⟨wi_ext h.1 g e, h.2⟩⟩
def rfC (z : Int) : TyC := ⟨fun v w _ => RN w v z ∧ fit z, fun h g e => ⟨rn_ext h.1 g e, h.2⟩⟩
def rbC (z : Int) : TyC := ⟨fun v w _ => RN w v z ∧ Bd z, fun h g e => ⟨rn_ext h.1 g e, h.2⟩⟩
/-- Fractions in range; of a middle size. -/
def ffC (x : Rat) : TyC := ⟨fun v w _ => FI w v x ∧ ft x, fun h g e => ⟨fi_ext h.1 g e, h.2⟩⟩
def rffC (x : Rat) : TyC := ⟨fun v w _ => RF w v x ∧ ft x, fun h g e => ⟨rf_ext h.1 g e, h.2⟩⟩
def rfbC (x : Rat) : TyC := ⟨fun v w _ => RF w v x ∧ Bd x.num ∧ Bd (dn x), fun h g e => ⟨rf_ext h.1 g e, h.2⟩⟩
theorem pl_wf (z : Int) : (wfC z).plain := fun _ _ _ _ h => h
theorem pl_rf (z : Int) : (rfC z).plain := fun _ _ _ _ h => h
theorem pl_ff (z : Rat) : (ffC z).plain := fun _ _ _ _ h => h
theorem pl_rff (z : Rat) : (rffC z).plain := fun _ _ _ _ h => h
theorem st2 {s : Bool} {A : Option Addr} {n c : Nat} : ∃ cs : Array Value, Value.agg #[.bool s, .slice A n c] = .agg cs ∧ cs.size = 2 ∧ cs.all (·.oneCell') = true ∧ cs.toList.all (fun v => !NB v) = true := ⟨_, rfl, rfl, by simp [Value.oneCell'], rfl⟩
theorem st4 {s : Bool} {A : Option Addr} {n c : Nat} {s' : Bool} {A' : Option Addr} {n' c' : Nat} : ∃ cs : Array Value, Value.agg #[.bool s, .slice A n c, .bool s', .slice A' n' c'] = .agg cs ∧ cs.size = 4 ∧ cs.all (·.oneCell') = true ∧ cs.toList.all (fun v => !NB v) = true := ⟨_, rfl, rfl, by simp [Value.oneCell'], rfl⟩
theorem wf_str (z : Int) : (wfC z).str 2 := fun v w c h => by
  obtain ⟨s, A, n, c, rfl⟩ := wi_cells h.1
  exact st2
theorem rf_str' (z : Int) : (rfC z).str 2 := fun v w c h => by
  obtain ⟨s, A, n, c, rfl⟩ := rn_cells h.1
  exact st2
theorem rb_str (z : Int) : (rbC z).str 2 := fun v w c h => by
  obtain ⟨s, A, n, c, rfl⟩ := rn_cells h.1
  exact st2
theorem eq2_str (s : Bool) (A : Option Addr) (n c : Nat) : (TyC.eq (.agg #[.bool s, .slice A n c])).str 2 := fun v w c h => by
  cases h
  exact st2
theorem ff_str (x : Rat) : (ffC x).str 4 := fun v w c h => by
  obtain ⟨s, A, n, c, s', A', n', c', rfl, _⟩ := FI.form h.1
  exact st4
theorem rff_str (x : Rat) : (rffC x).str 4 := fun v w c h => by
  obtain ⟨s, A, n, c, s', A', n', c', rfl, _⟩ := RF.form h.1
  exact st4
theorem rfb_str (x : Rat) : (rfbC x).str 4 := fun v w c h => by
  obtain ⟨s, A, n, c, s', A', n', c', rfl, _⟩ := RF.form h.1
  exact st4
section
variable {w : World} {c : Colr} {u v v' : Value} {x y z : Int} {r r' : Rat} {g n : Nat}
theorem fit_zero : fit 0 := fit_small (by omega) (by omega)
theorem fit_i64 {n : Int} (h : -9223372036854775808 ≤ n ∧ n ≤ 9223372036854775807) : fit n := by
  have hp : ∀ k, 2 ≤ k → 18446744073709551616 ≤ powN k := fun k hk => by
    unfold powN
    exact Nat.le_trans (by decide) (Nat.pow_le_pow_right (show 0 < 4294967296 by omega) hk)
  have : 18446744073709551616 ≤ topN := hp 512 (by omega)
  unfold fit
  omega
theorem rf_rb (h : (rfC z).sat v w c) : (rbC z).sat v w c := ⟨h.1, h.2.bd⟩
theorem rff_rfb (h : (rffC r).sat v w c) : (rfbC r).sat v w c := ⟨h.1, h.2.1.bd, h.2.2.bd⟩
theorem wf_zero : (wfC 0).sat (.agg #[.bool false, .slice none 0 0]) w c := ⟨WI.zero w, fit_zero⟩
theorem rf_zero : (rfC 0).sat (.agg #[.bool false, .slice none 0 0]) w c := ⟨RN.zero w, fit_zero⟩
theorem ff_zero : (ffC 0).sat (.agg #[.bool false, .slice none 0 0, .bool false, .slice none 0 0]) w c := ⟨FI.zero w, ft_zero⟩
/-- What a box of the reference's fractions holds before it is filled: anything that is a struct of that form. -/
def rzC : TyC := TyC.eq (.agg #[.bool false, .slice none 0 0, .bool false, .slice none 0 0])
theorem rz_str : rzC.str 4 := fun v w c h => by cases h; exact st4
theorem rz_zero : rzC.sat (.agg #[.bool false, .slice none 0 0, .bool false, .slice none 0 0]) w c := rfl
/-! fields -/
theorem lf_num (h : BoxC w c g 52 n (ffC r)) : ∃ u, (loadVar 35 ⟨g, 0, none⟩).run Tryz.prog w = .ok u w ∧ (wfC r.num).sat u w c := by
  obtain ⟨h1, u, h2, h3⟩ := h
  obtain ⟨v, h4, h5⟩ := ld_num h2.1 h3
  exact ⟨v, h4, h5, h2.2.1⟩
theorem lr_P (h : BoxC w c g 57 n (rffC r)) : ∃ u, (loadVar 26 ⟨g, 0, none⟩).run Tryz.prog w = .ok u w ∧ (rfC r.num).sat u w c := by
  obtain ⟨h1, u, h2, h3⟩ := h
  obtain ⟨v, h4, h5⟩ := ld_rP h2.1 h3
  exact ⟨v, h4, h5, h2.2.1⟩
theorem lr_Q (h : BoxC w c g 57 n (rffC r)) : ∃ u, (loadVar 26 ⟨g, 2, none⟩).run Tryz.prog w = .ok u w ∧ (rfC (dn r)).sat u w c := by
  obtain ⟨h1, u, h2, h3⟩ := h
  obtain ⟨v, h4, h5⟩ := ld_rQ h2.1 h3
  exact ⟨v, h4, h5, h2.2.2⟩
/-- One cell of a box whose cells are known. -/
theorem l_cell {t ty : TypeId} {cs : Array Value} {k : Nat} (h : BoxC w c g t n (TyC.eq (.agg cs))) (hf : Flat Tryz.prog ty) (hk : cs[k]? = some u) : ∃ q, (loadVar ty ⟨g, k, none⟩).run Tryz.prog w = .ok q w ∧ q = u := by
  obtain ⟨h1, u', h2, h3⟩ := h
  cases h2
  have hc := h3.cell k hk
  obtain ⟨d, hu, hd⟩ := hf
  refine ⟨u, ?_, rfl⟩
  cases d <;> simp_all [loadVar, isAgg, run_underlying hu]
theorem flat_bool : Flat Tryz.prog 4 := ⟨_, Tryz.underlying4, rfl⟩
theorem flat_ints : Flat Tryz.prog 23 := ⟨_, Tryz.underlying23, rfl⟩
theorem flat_int : Flat Tryz.prog 3 := ⟨_, Tryz.underlying3, rfl⟩
theorem fld_n0 (g k : Nat) : (Instr.fieldAt 26 (.pointer (some ⟨g, 0, none⟩)) 0).run Tryz.prog w = .ok (.pointer (some ⟨g, 0, none⟩)) w := run_field (sz := 1) Tryz.underlying26 rfl rfl (by kernel_rfl) rfl
theorem fld_n1 (g k : Nat) : (Instr.fieldAt 26 (.pointer (some ⟨g, 0, none⟩)) 1).run Tryz.prog w = .ok (.pointer (some ⟨g, 1, none⟩)) w := run_field (sz := 1) Tryz.underlying26 rfl rfl (by kernel_rfl) rfl
/-! builds -/
theorem b_rff (hu : (rfC r.num).sat u w c) (hv : (rfC (dn r)).sat v w c) : ∃ b, (Instr.build 57 #[(0, u), (1, v)]).run Tryz.prog w = .ok b w ∧ (rffC r).sat b w c := by
  obtain ⟨b, h1, h2⟩ := build_rf hu.1 hv.1
  exact ⟨b, h1, h2, hu.2, hv.2⟩
theorem b_rfb (hu : (rbC r.num).sat u w c) (hv : (rbC (dn r)).sat v w c) : ∃ b, (Instr.build 57 #[(0, u), (1, v)]).run Tryz.prog w = .ok b w ∧ (rfbC r).sat b w c := by
  obtain ⟨b, h1, h2⟩ := build_rf hu.1 hv.1
  exact ⟨b, h1, h2, hu.2, hv.2⟩
theorem b_ff0 : ∃ b, (Instr.build 52 #[]).run Tryz.prog w = .ok b w ∧ (ffC 0).sat b w c := by
  obtain ⟨b, h1, h2⟩ := build_f0 (w := w)
  exact ⟨b, h1, h2, ft_zero⟩
theorem b_ff (hu : (wfC r.num).sat u w c) (hv : (wfC (dn r)).sat v w c) : ∃ b, (Instr.build 52 #[(0, u), (1, v)]).run Tryz.prog w = .ok b w ∧ (ffC r).sat b w c := by
  obtain ⟨b, h1, h2⟩ := build_f hu.1 hv.1
  exact ⟨b, h1, h2, hu.2, hv.2⟩
/-! contracts -/
theorem CV.of_CT {P : Program} {fn : Nat} {vs : Array Value} {τ : Ty} {σ : TyC} (h : CT P fn vs w τ) (hs : ∀ v w' c', τ.sat v w' → σ.sat v w' c') : CV P fn vs w c σ := CV.of_new (R := τ.sat) h hs
theorem rg_fit (z : Int) : fit (rg z) := by
  unfold rg
  split
  · assumption
  · exact fit_zero
abbrev I64 (n : Int) : Prop := -9223372036854775808 ≤ n ∧ n ≤ 9223372036854775807
theorem k_from (n : Int) (h : I64 n) : CV Tryz.prog 50 #[.int .i64 n] w c (wfC n) := CV.of_CT (t_from n h.1 h.2) fun v w' c' h1 => ⟨h1, fit_i64 h⟩
theorem k_wadd (h : (wfC x).sat v w c) (h' : (wfC y).sat v' w c) : CV Tryz.prog 62 #[v, v'] w c ((wfC (rg (x + y))).tup1 (.int .i64 (rgE (x + y)))) := CV.of_CT (t_wadd h.1 h'.1 h.2.bd h'.2.bd) fun v w' c' ⟨y, h1, h2⟩ => ⟨y, h1, h2, rg_fit _⟩
theorem k_wcompare (h : (wfC x).sat v w c) (h' : (wfC y).sat v' w c) : CV Tryz.prog 25 #[v, v'] w c (TyC.eq (.int .i64 (cmpI x y))) := CV.of_CT (t_wcompare h.1 h'.1) fun v w' c' h => h
theorem k_wsmall (h : (wfC x).sat v w c) : CV Tryz.prog 108 #[v] w c (TyC.eq (.tuple #[.int .i64 (intIf x), .bool (isInt x)])) := CV.of_CT (t_wsmall h.1) fun v w' c' h => h
theorem k_wstring (h : (wfC x).sat v w c) (hp : PowTab w) : CV Tryz.prog 23 #[v] w c (TyC.eq (.string (St (Txt.text x)))) := CV.of_CT (t_wstring h.1 hp h.2.bd) fun v w' c' h => h
theorem k_wparse (b : ByteArray) (l : List UInt8) (hb : b = St l) (hn : b.size ≤ 5000) (Z E : Int) (hr : ParsR l Z E) : CV Tryz.prog 19 #[.string b] w c ((wfC Z).tup1 (.int .i64 E)) := by
  refine CV.of_CT (t_wparse b l hb hn Z E hr) fun v w' c' ⟨y, h1, h2⟩ => ⟨y, h1, h2, ?_⟩
  rcases hr with ⟨z, _, rfl, _⟩ | ⟨_, rfl, _⟩
  · exact rg_fit z
  · exact fit_zero
theorem k_of (n : Int) (h : I64 n) : CV Tryz.prog 15 #[.int .i64 n] w c (rfC n) := CV.of_CT (t_of n h.1 h.2) fun v w' c' h1 => ⟨h1, fit_i64 h⟩
theorem k_rnegb (h : (rbC x).sat v w c) : CV Tryz.prog 14 #[v] w c (rbC (-x)) := CV.of_CT (t_rneg h.1) fun v w' c' h1 => ⟨h1, h.2.neg⟩
theorem fit.mul_bd {a b : Int} (h : fit a) (h' : fit b) : Bd (a * b) := by
  obtain ⟨K, hK⟩ : ∃ K, K = 512 := ⟨_, rfl⟩
  have e : powN K = 2 ^ (32 * K) := by unfold powN; rw [Nat.pow_mul]
  unfold fit at h h'
  rw [show topN = powN 512 from rfl, ← hK, e] at h h'
  exact Bd.of (k := 32 * K + 32 * K) (nmul_lt h h') (by omega)
theorem k_rmul (h : (rfC x).sat v w c) (h' : (rfC y).sat v' w c) : CV Tryz.prog 18 #[v, v'] w c (rbC (x * y)) := CV.of_CT (t_rmul h.1 h'.1 h.2.bd h'.2.bd) fun v w' c' h1 => ⟨h1, h.2.mul_bd h'.2⟩
theorem k_radd (h : (rfC x).sat v w c) (h' : (rfC y).sat v' w c) : CV Tryz.prog 71 #[v, v'] w c (rbC (x + y)) := CV.of_CT (t_radd h.1 h'.1 h.2.bd h'.2.bd) fun v w' c' h1 => ⟨h1, h.2.add_bd h'.2⟩
theorem k_rgcd (h : (rbC x).sat v w c) (h' : (rbC y).sat v' w c) (h0 : y ≠ 0) : CV Tryz.prog 102 #[v, v'] w c (rbC ((Int.gcd x y : Nat) : Int)) := CV.of_CT (t_rgcd h.1 h'.1 h.2 h'.2) fun v w' c' h1 => ⟨h1, gcd_bd h'.2 h0⟩
theorem mod_bd {a b : Int} (h : Bd b) (h0 : b ≠ 0) : Bd (a % b) := by
  refine Bd.le h ?_
  have h1 := Int.emod_nonneg a h0
  have h2 := Int.emod_lt a h0
  omega
theorem k_rdiv (h : (rbC x).sat v w c) (h' : (rbC y).sat v' w c) (h0 : y ≠ 0) : CV Tryz.prog 103 #[v, v'] w c ((rbC (x / y)).pair (rbC (x % y))) :=
  CV.of_CT (t_rdiv h.1 h'.1 h.2 h'.2 h0) fun v w' c' ⟨p, q, h1, h2, h3⟩ => ⟨p, q, h1, ⟨h2, Bd.le h.2 (ediv_le _ _)⟩, h3, mod_bd h'.2 h0⟩
theorem k_rtext (h : (rfC x).sat v w c) : CV Tryz.prog 20 #[v] w c (TyC.eq (.string (St (Txt.text x)))) := CV.of_CT (t_rtext h.1 h.2.bd) fun v w' c' h => h
end
end Go.Proofs.YtbocpkjajocpiaaGreatDoor
namespace Go.Proofs.YtbocpkjajocpiaaGreatDoor
open Go.RowKit Go.Mem Go.Dig Go.Fr Go.Col
section
variable {P : Program} {w w' : World} {c' : Colr}
theorem pow_at {S : List Nat} {c0 : Colr} (h : PowTab w) (e : Ext S w c0 w' c') (hc : c0 = fun _ => 0) : PowTab w' := by
  subst hc
  exact h.new e.new0
theorem run_not (b : Bool) : (Op.unary .not (.bool b)).run P w = .ok (.bool (!b)) w := by
  simp [Op.unary, go_sem]
end
end Go.Proofs.YtbocpkjajocpiaaGreatDoor
namespace Go.Proofs.YtbocpkjajocpiaaGreatDoor
open Go.RowKit Go.Mem Go.Dig Go.Fr Go.Col
section
variable {w : World} {c : Colr} {v : Value} {x y : Int} {r : Rat}
theorem rb_cast (e : x = y) (h : (rbC x).sat v w c) : (rbC y).sat v w c := e ▸ h
theorem rf_cast (e : x = y) (h : (rfC x).sat v w c) : (rfC y).sat v w c := e ▸ h
theorem wf_cast (e : x = y) (h : (wfC x).sat v w c) : (wfC y).sat v w c := e ▸ h
theorem rb_up (h : (rbC x).sat v w c) (hf : fit x) : (rfC x).sat v w c := ⟨h.1, hf⟩
end
end Go.Proofs.YtbocpkjajocpiaaGreatDoor

namespace Go.Proofs.YtbocpkjajocpiaaGreatDoor
set_option linter.unusedVariables false
open Go.RowKit Go.Mem Go.Dig Go.Fr Go.Col

section
variable {w : World} {c : Colr} {v v' : Value} {x y z : Int} {r r' : Rat} {g n : Nat}
theorem fit_gcd {p q : Int} (h : fit q) (h0 : q ≠ 0) : fit ((Int.gcd p q : Nat) : Int) := by
  have h1 := Int.gcd_le_natAbs_right p h0
  unfold fit at *
  omega
theorem fit_mod {a b : Int} (h : fit b) (h0 : b ≠ 0) : fit (a % b) := by
  have h1 := Int.emod_nonneg a h0
  have h2 := Int.emod_lt a h0
  unfold fit at *
  omega
theorem k_wneg (h : (wfC x).sat v w c) : CV Tryz.prog 99 #[v] w c (wfC (-x)) := CV.of_CT (t_wneg h.1) fun v w' c' h1 => ⟨h1, h.2.neg⟩
theorem k_wsign (h : (wfC x).sat v w c) : CV Tryz.prog 24 #[v] w c (TyC.eq (.int .i64 (cmpI x 0))) := CV.of_CT (t_wsign h.1) fun v w' c' h => h
theorem k_wgcd (h : (wfC x).sat v w c) (h' : (wfC y).sat v' w c) (h0 : y ≠ 0) : CV Tryz.prog 100 #[v, v'] w c (wfC ((Int.gcd x y : Nat) : Int)) := CV.of_CT (t_wgcd h.1 h'.1 h.2.bd h'.2.bd) fun v w' c' h1 => ⟨h1, fit_gcd h'.2 h0⟩
theorem k_wdiv (h : (wfC x).sat v w c) (h' : (wfC y).sat v' w c) (h0 : y ≠ 0) : CV Tryz.prog 81 #[v, v'] w c ((wfC (x / y)).tup2 (wfC (x % y)) (.int .i64 0)) :=
  CV.of_CT (t_wdiv h.1 h'.1 h.2.bd h'.2.bd h0) fun v w' c' ⟨p, q, h1, h2, h3⟩ => ⟨p, q, h1, ⟨h2, h.2.div⟩, h3, fit_mod h'.2 h0⟩
theorem k_wmul (h : (wfC x).sat v w c) (h' : (wfC y).sat v' w c) : CV Tryz.prog 129 #[v, v'] w c ((wfC (rg (x * y))).tup1 (.int .i64 (rgE (x * y)))) := CV.of_CT (t_wmul h.1 h'.1 h.2.bd h'.2.bd) fun v w' c' ⟨y, h1, h2⟩ => ⟨y, h1, h2, rg_fit _⟩
theorem k_waddok (h : (wfC x).sat v w c) (h' : (wfC y).sat v' w c) (hz : fit (x + y)) : CV Tryz.prog 62 #[v, v'] w c ((wfC (x + y)).tup1 (.int .i64 0)) := by
  have := k_wadd h h'
  rwa [(rg_in hz).1, (rg_in hz).2] at this
theorem k_waddno (h : (wfC x).sat v w c) (h' : (wfC y).sat v' w c) (hz : ¬ fit (x + y)) : CV Tryz.prog 62 #[v, v'] w c ((wfC 0).tup1 (.int .i64 4)) := by
  have := k_wadd h h'
  rwa [(rg_out hz).1, (rg_out hz).2] at this
theorem b_wf0 : ∃ v, (Instr.build 35 #[]).run Tryz.prog w = .ok v w ∧ (wfC 0).sat v w c := ⟨_, by kernel_rfl, wf_zero⟩
/-- A fraction whose denominator's field is z: the denominator itself, or 0. -/
def fdC (x : Rat) (z : Int) : TyC := ⟨fun v w _ => FD w v x z ∧ ft x ∧ fit z, fun ⟨⟨p, q, h1, h2, h3, h4⟩, h5⟩ g e => ⟨⟨p, q, h1, wi_ext h2 g e, wi_ext h3 g e, h4⟩, h5⟩⟩
theorem fd_str (x : Rat) (z : Int) : (fdC x z).str 4 := fun v w c h => by
  obtain ⟨s, A, n, c, s', A', n', c', rfl, _⟩ := FD.form h.1
  exact st4
theorem lfd_num (h : BoxC w c g 52 n (fdC r z)) : ∃ u, (loadVar 35 ⟨g, 0, none⟩).run Tryz.prog w = .ok u w ∧ (wfC r.num).sat u w c := by
  obtain ⟨h1, u, h2, h3⟩ := h
  obtain ⟨v, h4, h5⟩ := ld_fdn h2.1 h3
  exact ⟨v, h4, h5, h2.2.1.1⟩
theorem lfd_den (h : BoxC w c g 52 n (fdC r z)) : ∃ u, (loadVar 35 ⟨g, 2, none⟩).run Tryz.prog w = .ok u w ∧ (wfC z).sat u w c := by
  obtain ⟨h1, u, h2, h3⟩ := h
  obtain ⟨v, h4, h5⟩ := ld_fd h2.1 h3
  exact ⟨v, h4, h5, h2.2.2⟩
theorem fd_ff (h : (fdC r z).sat v w c) (hz : z = dn r ∨ (z = 0 ∧ dn r = 1)) : (ffC r).sat v w c := ⟨h.1.fi hz, h.2.1⟩
theorem ff_fd (h : (ffC r).sat v w c) : ∃ z, (z = dn r ∨ (z = 0 ∧ dn r = 1)) ∧ (fdC r z).sat v w c := by
  rcases h.1.fd with h1 | h1
  · exact ⟨_, .inl rfl, h1, h.2, h.2.2⟩
  · exact ⟨_, .inr ⟨rfl, h1.one⟩, h1, h.2, fit_zero⟩
theorem b_fd (hu : (wfC (-r.num)).sat v w c) (hv : (wfC z).sat v' w c) (hz : z = dn r ∨ (z = 0 ∧ dn r = 1)) (fr : ft r) : ∃ b, (Instr.build 52 #[(0, v), (1, v')]).run Tryz.prog w = .ok b w ∧ (ffC (-r)).sat b w c := by
  obtain ⟨b, h1, h2⟩ := build_fd (r := -r) hu.1 hv.1 hz
  exact ⟨b, h1, h2, fr.neg⟩
end
set_option maxRecDepth 100000 in
set_option maxHeartbeats 4000000 in
theorem t_over (w : World) (v v' : Value) (x y : Int) (h : (wfC x).sat v w (fun _ => 0)) (h' : (wfC y).sat v' w (fun _ => 0)) (hy0 : y ≠ 0) : CT0 Tryz.prog 101 #[v, v'] w (wfC (x / y)) := by
 refine enter_st Tryz.func101 rfl Tryz.ntmps101 [(0, v), (1, v')] rfl ⟨rfl, rfl, trivial⟩ (Nat.le_of_ble_eq_true rfl) ?_; intro a0 XE0; obtain ⟨c0, hc0⟩ : ∃ c0 : Colr, c0 = fun _ => 0 := ⟨_, rfl⟩; have XG0 : GI w c0 := hc0 ▸ GI.zero w; have XN0 : Ext [21, 22, 23, 24, 25] w c0 w c0 := Ext.refl rfl XG0; have XL0 : All [.s (Fact.val (wfC (x)) v), .s (Fact.val (wfC (y)) (v'))] b0 f0 w c0 := ⟨(hc0 ▸ h), (hc0 ▸ h'), trivial⟩; refine wp_seq ?_; refine region_st [[], [], []] [2, 3, 4] [21, 22, 23] (tyvC [(2, PT), (3, PT), (4, PT)]) XE0 XG0 (All.cn 2 21 35 0 #[] (wfC (x)) (All.cn 3 22 35 1 #[] (wfC (y)) (All.cn 4 23 35 2 #[] (wfC (0)) XL0))) (fun Q => ⟨sBox 2 21 (rO 0) (fun K h0 => bxs (wf_str _) (K.fac.val 3 rfl)), sBox 3 22 (rO 1) (fun K h0 => bxs (wf_str _) (K.fac.val 4 rfl)), sAlz 4 23 (zeroI _) (wf_zero), trivial⟩) ?_; intro bX fX w1 c1 a1 XG1 yx yA yB yV yO yF; obtain ⟨g2_1, e2⟩ := kp (yV 2 rfl) rfl; obtain ⟨g3_1, e3⟩ := kp (yV 3 rfl) rfl; obtain ⟨g4_1, e4⟩ := kp (yV 4 rfl) rfl; have XE1 := XE0.up yF yO (ck e2 (ck e3 (ck e4 kn))); have XL1 := (All.cb (yA.nb 0 rfl e2 (yB 0 (by decide))) (All.cb (yA.nb 1 rfl e3 (yB 1 (by decide))) (All.cb (yA.nb 2 rfl e4 (yB 2 (by decide))) (yA.pk yB rfl [])))); have XN1 := XN0.trans yx rfl; clear yx yA yB yV yO yF; show Code.wp _ _ _ _ _; refine wp_seq ?_; refine region_st [[], [], [0, 1], [2], [3], [3], [3], [], [], [4, 7], [5, 8], [6]] [5, 6, 7, 8, 9, 10, 11, 12, 13, 14] [24, 25] (tyvC [(5, PT), (6, PT), (7, (iE 0)), (8, (TyC.tup2 (wfC (x / y)) (wfC (x % y)) (Value.int .i64 0))), (9, (wfC (x))), (10, (wfC (y))), (11, (TyC.tup2 (wfC (x / y)) (wfC (x % y)) (Value.int .i64 0))), (12, (wfC (x / y))), (13, (wfC (x % y))), (14, (iE 0))]) XE1 XG1 (All.cn 5 24 35 9 #[.bool false, .slice none 0 0] (wfC (x / y)) (All.cn 6 25 35 10 #[.bool false, .slice none 0 0] (wfC (x % y)) XL1)) (fun Q => ⟨sLb 9 (rO 2) 2 aggInt (wf_str _), sLb 10 (rO 3) 3 aggInt (wf_str _), sC2 11 (rS 9 0) (rS 10 1) (fun K h0 h1 => k_wdiv h0 h1 hy0) Tryz.func81, sMv 8 (rS 11 2), sEx 12 (rS 8 3) ex20, sEx 13 (rS 8 3) ex21, sEx 14 (rS 8 3) ex22, sAl 5 24 (zeroI _), sAl 6 25 (zeroI _), sStn 5 24 7 0 (rS 12 4) aggInt (wf_str _), sStn 6 25 8 1 (rS 13 5) aggInt (wf_str _), sMv 7 (rS 14 6), trivial⟩) ?_; intro bX fX w2 c2 a2 XG2 yx yA yB yV yO yF; obtain ⟨g5_2, e5⟩ := kp (yV 5 rfl) rfl; have XE2 := XE1.up yF yO (ck e5 kn); have XL2 := (All.cb (yA.nb 0 rfl e5 (yB 9 (by decide))) (yA.pk yB rfl [4])); have XN2 := XN1.trans yx rfl; clear yx yA yB yV yO yF; show Code.wp _ _ _ _ _; refine wp_seq ?_; refine region_st [[], [0]] [15] [23] (tyvC [(15, (wfC (x / y)))]) XE2 XG2 (All.stg 1 1 (Fact.box g4_1 35 23 (wfC (x / y))) XL2) (fun Q => ⟨sLb 15 (rO 5) 0 aggInt (wf_str _), sSto 23 (rO 4) (rS 15 0) aggInt (wf_str _) (fun K => BoxC.old (K.fac.sb0 1 rfl K.self) (wf_str _)) (fun K h0 => h0), trivial⟩) ?_; intro bX fX w3 c3 a3 XG3 yx yA yB yV yO yF; have XE3 := XE2.up yF yO kn; have XL3 := (yA.pk yB rfl [1]); have XN3 := XN2.trans yx rfl; clear yx yA yB yV yO yF; show Code.wp _ _ _ _ _; refine wp_ret ?_
 (repeat (first | (with_reducible refine then_ret ?_) | (with_reducible refine inBlock_ret ?_) | (with_reducible refine then_normal ?_) | (with_reducible refine inBlock_normal ?_))); show bodyPost Tryz.prog Tryz.f101 _ Exit.ret a3 w3; obtain ⟨r0, hr0, hs0⟩ := BoxC.load (All.box XL3 0 rfl) aggInt (wf_str _); subst hc0; exact bodyPost_ret (res_c rfl _ (XE3.at 4 rfl) hr0) XE3.2.1 ⟨_, rfl, hs0, XN3.new0⟩

theorem k_over {w : World} {c : Colr} {v v' : Value} {x y : Int} (h : (wfC x).sat v w c) (h' : (wfC y).sat v' w c) (h0 : y ≠ 0) : CV Tryz.prog 101 #[v, v'] w c (wfC (x / y)) := (t_over w v v' x y h h' h0).cv (pl_wf _)
set_option maxRecDepth 100000 in
set_option maxHeartbeats 4000000 in
theorem t_make (w : World) (v v' : Value) (p q : Int) (h : (wfC p).sat v w (fun _ => 0)) (h' : (wfC q).sat v' w (fun _ => 0)) : CT0 Tryz.prog 29 #[v, v'] w (TyC.tup1 (ffC (mkV p q)) (Value.int .i64 (mkE q))) := by
 refine enter_st Tryz.func29 rfl Tryz.ntmps29 [(0, v), (1, v')] rfl ⟨rfl, rfl, trivial⟩ (Nat.le_of_ble_eq_true rfl) ?_; intro a0 XE0; obtain ⟨c0, hc0⟩ : ∃ c0 : Colr, c0 = fun _ => 0 := ⟨_, rfl⟩; have XG0 : GI w c0 := hc0 ▸ GI.zero w; have XN0 : Ext [21, 22, 23, 24, 25] w c0 w c0 := Ext.refl rfl XG0; have XL0 : All [.s (Fact.val (wfC (p)) v), .s (Fact.val (wfC (q)) (v'))] b0 f0 w c0 := ⟨(hc0 ▸ h), (hc0 ▸ h'), trivial⟩; refine wp_seq ?_; refine region_st [[], [], [], []] [2, 3, 4, 5] [21, 22, 23] (tyvC [(2, PT), (3, PT), (4, PT), (5, (iE 0))]) XE0 XG0 (All.cn 2 21 35 0 #[] (wfC (p)) (All.cn 3 22 35 1 #[] (wfC (q)) (All.cn 4 23 52 2 #[] (ffC (0)) XL0))) (fun Q => ⟨sBox 2 21 (rO 0) (fun K h0 => bxs (wf_str _) (K.fac.val 3 rfl)), sBox 3 22 (rO 1) (fun K h0 => bxs (wf_str _) (K.fac.val 4 rfl)), sAlz 4 23 (zeroF _) (ff_zero), sMv 5 (rK (Value.int IntKind.i64 0)), trivial⟩) ?_; intro bX fX w1 c1 a1 XG1 yx yA yB yV yO yF; obtain ⟨g2_1, e2⟩ := kp (yV 2 rfl) rfl; obtain ⟨g3_1, e3⟩ := kp (yV 3 rfl) rfl; obtain ⟨g4_1, e4⟩ := kp (yV 4 rfl) rfl; have XE1 := XE0.up yF yO (ck e2 (ck e3 (ck e4 (ck (kv (yV 5 rfl) rfl) kn)))); have XL1 := (All.cb (yA.nb 0 rfl e2 (yB 0 (by decide))) (All.cb (yA.nb 1 rfl e3 (yB 1 (by decide))) (All.cb (yA.nb 2 rfl e4 (yB 2 (by decide))) (yA.pk yB rfl [])))); have XN1 := XN0.trans yx rfl; clear yx yA yB yV yO yF; show Code.wp _ _ _ _ _; refine wp_seq ?_; refine wp_seq ?_; rcases Int.lt_trichotomy q 0 with hq | hq | hq
 · have h0 : q ≠ 0 := by omega
   have hmk : mkV p q = Rat.divInt p q := if_neg h0; have he : mkE q = 0 := if_neg h0; refine region_st [[], [0], [1]] [7, 8, 9] [] (tyvC [(7, (wfC (q))), (8, (iE (cmpI q 0))), (9, (bE false))]) XE1 XG1 XL1 (fun Q => ⟨sLb 7 (rO 3) 1 aggInt (wf_str _), sC1 8 (rS 7 0) (fun K h0 => k_wsign h0) Tryz.func24, sBin 9 (z := Value.int .i64 (cmpI q 0)) (z' := Value.int IntKind.i64 0) (u := Value.bool false) (rS 8 1) (rK (Value.int IntKind.i64 0)) (fun h h' => ⟨h, rfl⟩) (eqg_int _ _ _ _ _ _ _ _) (run_as (run_eql _ _ _ _) (by rw [cmpI_lt hq]; rfl)), trivial⟩) ?_; intro bX fX w2 c2 a2 XG2 yx yA yB yV yO yF; have XE2 := XE1.up yF yO (ck (kv (yV 9 rfl) rfl) kn); have XL2 := (yA.pk yB rfl [0, 1, 2]); have XN2 := XN1.trans yx rfl; clear yx yA yB yV yO yF; show Code.wp _ _ _ _ _; refine wp_cond (t := false) (XE2.at 9 rfl) ?_; refine wp_skip ?_; show Code.wp _ _ _ _ _; refine wp_seq ?_; refine wp_seq ?_; refine region_st [[], [0], [1]] [11, 12, 13] [] (tyvC [(11, (wfC (q))), (12, (iE (cmpI q 0))), (13, (bE true))]) XE2 XG2 XL2 (fun Q => ⟨sLb 11 (rO 3) 1 aggInt (wf_str _), sC1 12 (rS 11 0) (fun K h0 => k_wsign h0) Tryz.func24, sBin 13 (z := Value.int .i64 (cmpI q 0)) (z' := Value.int IntKind.i64 0) (u := Value.bool true) (rS 12 1) (rK (Value.int IntKind.i64 0)) (fun h h' => ⟨h, rfl⟩) (eqg_int _ _ _ _ _ _ _ _) (run_as (run_lss _ _ _ _) (by rw [cmpI_lt hq]; rfl)), trivial⟩) ?_; intro bX fX w3 c3 a3 XG3 yx yA yB yV yO yF; have XE3 := XE2.up yF yO (ck (kv (yV 13 rfl) rfl) kn); have XL3 := (yA.pk yB rfl [0, 1, 2]); have XN3 := XN2.trans yx rfl; clear yx yA yB yV yO yF; show Code.wp _ _ _ _ _; refine wp_cond (t := true) (XE3.at 13 rfl) ?_; refine region_st [[], [0], [], [2], [0, 1], [2, 3]] [14, 15, 16, 17] [21, 22] (tyvC [(14, (wfC (p))), (15, (wfC (-p))), (16, (wfC (q))), (17, (wfC (-q)))]) XE3 XG3 (All.stg 1 5 (Fact.box g3_1 35 22 (wfC (-q))) (All.stg 0 4 (Fact.box g2_1 35 21 (wfC (-p))) XL3)) (fun Q => ⟨sLf 14 (rO 2) (fun K => BoxC.load (K.fac.sb0 0 rfl (K.nyet 4 rfl)) aggInt (wf_str _)), sC1 15 (rS 14 0) (fun K h0 => k_wneg h0) Tryz.func99, sLf 16 (rO 3) (fun K => BoxC.load (K.fac.sb0 1 rfl (K.nyet 5 rfl)) aggInt (wf_str _)), sC1 17 (rS 16 2) (fun K h0 => k_wneg h0) Tryz.func99, sSto 21 (rO 2) (rS 15 1) aggInt (wf_str _) (fun K => BoxC.old (K.fac.sb0 0 rfl K.self) (wf_str _)) (fun K h0 => h0), sSto 22 (rO 3) (rS 17 3) aggInt (wf_str _) (fun K => BoxC.old (K.fac.sb0 1 rfl K.self) (wf_str _)) (fun K h0 => h0), trivial⟩) ?_; intro bX fX w4 c4 a4 XG4 yx yA yB yV yO yF; have XE4 := XE3.up yF yO kn; have XL4 := (yA.pk yB rfl [0, 1, 2]); have XN4 := XN3.trans yx rfl; clear yx yA yB yV yO yF; (repeat (first | (with_reducible refine inBlock_normal ?_) | (with_reducible refine then_normal ?_))); show Code.wp _ _ _ _ _; have hgne : ((Int.gcd (-p) (-q) : Nat) : Int) ≠ 0 := gcd_ne (by omega); refine wp_seq ?_; refine region_st [[], [], [0, 1], [], [2, 3]] [6, 18, 19, 20] [24] (tyvC [(6, PT), (18, (wfC (-p))), (19, (wfC (-q))), (20, (wfC (((Int.gcd (-p) (-q) : Nat) : Int))))]) XE4 XG4 (All.cn 6 24 35 4 #[.bool false, .slice none 0 0] (wfC (((Int.gcd (-p) (-q) : Nat) : Int))) XL4) (fun Q => ⟨sLb 18 (rO 2) 1 aggInt (wf_str _), sLb 19 (rO 3) 2 aggInt (wf_str _), sC2 20 (rS 18 0) (rS 19 1) (fun K h0 h1 => k_wgcd h0 h1 (by omega)) Tryz.func100, sAl 6 24 (zeroI _), sStn 6 24 3 0 (rS 20 2) aggInt (wf_str _), trivial⟩) ?_
   intro bX fX w5 c5 a5 XG5 yx yA yB yV yO yF; obtain ⟨g6_5, e6⟩ := kp (yV 6 rfl) rfl; have XE5 := XE4.up yF yO (ck e6 kn); have XL5 := (All.cb (yA.nb 0 rfl e6 (yB 4 (by decide))) (yA.pk yB rfl [1, 2, 3])); have XN5 := XN4.trans yx rfl; clear yx yA yB yV yO yF; show Code.wp _ _ _ _ _; refine wp_seq ?_; have hn1 : (-p) / ((Int.gcd (-p) (-q) : Nat) : Int) = (mkV p q).num := by rw [hmk]; exact (make_neg (p := p) hq).1
   have hn2 : (-q) / ((Int.gcd (-p) (-q) : Nat) : Int) = dn (mkV p q) := by rw [hmk]; exact (make_neg (p := p) hq).2
   refine region_st [[], [], [0, 1], [], [], [3, 4], [2, 5], [6], []] [5, 21, 22, 23, 24, 25, 26, 27] [23] (tyvC [(5, (iE 0)), (21, (wfC (-p))), (22, (wfC (((Int.gcd (-p) (-q) : Nat) : Int)))), (23, (wfC ((-p) / ((Int.gcd (-p) (-q) : Nat) : Int)))), (24, (wfC (-q))), (25, (wfC (((Int.gcd (-p) (-q) : Nat) : Int)))), (26, (wfC ((-q) / ((Int.gcd (-p) (-q) : Nat) : Int)))), (27, (ffC (mkV p q)))]) XE5 XG5 (All.stg 3 7 (Fact.box g4_1 52 23 (ffC (mkV p q))) XL5) (fun Q => ⟨sLb 21 (rO 2) 1 aggInt (wf_str _), sLb 22 (rO 6) 0 aggInt (wf_str _), sC2 23 (rS 21 0) (rS 22 1) (fun K h0 h1 => k_over h0 h1 hgne) Tryz.func101, sLb 24 (rO 3) 2 aggInt (wf_str _), sLb 25 (rO 6) 0 aggInt (wf_str _), sC2 26 (rS 24 3) (rS 25 4) (fun K h0 h1 => k_over h0 h1 hgne) Tryz.func101, sB2 27 (rS 23 2) (rS 26 5) (fun K h0 h1 => b_ff (r := mkV p q) (wf_cast hn1 h0) (wf_cast hn2 h1)), sSto 23 (rO 4) (rS 27 6) aggF (ff_str _) (fun K => BoxC.old (K.fac.sb0 3 rfl K.self) (ff_str _)) (fun K h0 => h0), sMv 5 (rK (Value.int IntKind.i64 0)), trivial⟩) ?_; intro bX fX w6 c6 a6 XG6 yx yA yB yV yO yF; have XE6 := XE5.up yF yO (ck (kv (yV 5 rfl) rfl) kn); have XL6 := (yA.pk yB rfl [3]); have XN6 := XN5.trans yx rfl; clear yx yA yB yV yO yF; show Code.wp _ _ _ _ _; rw [he]; refine wp_ret ?_; (repeat (first | (with_reducible refine then_ret ?_) | (with_reducible refine inBlock_ret ?_) | (with_reducible refine then_normal ?_) | (with_reducible refine inBlock_normal ?_))); show bodyPost Tryz.prog Tryz.f29 _ Exit.ret a6 w6; obtain ⟨r0, hr0, hs0⟩ := BoxC.load (All.box XL6 0 rfl) aggF (ff_str _); subst hc0; exact bodyPost_ret (res_ct rfl _ (XE6.at 4 rfl) hr0 (XE6.at 5 rfl)) XE6.2.1 ⟨_, rfl, ⟨_, rfl, hs0⟩, XN6.new0⟩
 · have hmk : mkV p q = 0 := if_pos hq
   have he : mkE q = 1 := if_pos hq; rw [hmk, he]; refine region_st [[], [0], [1]] [7, 8, 9] [] (tyvC [(7, (wfC (q))), (8, (iE (cmpI q 0))), (9, (bE true))]) XE1 XG1 XL1 (fun Q => ⟨sLb 7 (rO 3) 1 aggInt (wf_str _), sC1 8 (rS 7 0) (fun K h0 => k_wsign h0) Tryz.func24, sBin 9 (z := Value.int .i64 (cmpI q 0)) (z' := Value.int IntKind.i64 0) (u := Value.bool true) (rS 8 1) (rK (Value.int IntKind.i64 0)) (fun h h' => ⟨h, rfl⟩) (eqg_int _ _ _ _ _ _ _ _) (run_as (run_eql _ _ _ _) (by rw [cmpI_eq hq]; rfl)), trivial⟩) ?_; intro bX fX w7 c7 a7 XG7 yx yA yB yV yO yF; have XE7 := XE1.up yF yO (ck (kv (yV 9 rfl) rfl) kn); have XL7 := (yA.pk yB rfl [0, 1, 2]); have XN7 := XN1.trans yx rfl; clear yx yA yB yV yO yF; show Code.wp _ _ _ _ _; refine wp_cond (t := true) (XE7.at 9 rfl) ?_; refine wp_seq ?_; refine region_st [[], [0], []] [5, 10] [23] (tyvC [(5, (iE 1)), (10, (ffC (0)))]) XE7 XG7 (All.stg 2 1 (Fact.box g4_1 52 23 (ffC (0))) XL7) (fun Q => ⟨sB0 10  (fun K => b_ff0), sSto 23 (rO 4) (rS 10 0) aggF (ff_str _) (fun K => BoxC.old (K.fac.sb0 2 rfl K.self) (ff_str _)) (fun K h0 => h0), sMv 5 (rK (Value.int IntKind.i64 1)), trivial⟩) ?_; intro bX fX w8 c8 a8 XG8 yx yA yB yV yO yF; have XE8 := XE7.up yF yO (ck (kv (yV 5 rfl) rfl) kn); have XL8 := (yA.pk yB rfl [0, 1, 2]); have XN8 := XN7.trans yx rfl; clear yx yA yB yV yO yF; show Code.wp _ _ _ _ _; refine wp_ret ?_; (repeat (first | (with_reducible refine then_ret ?_) | (with_reducible refine inBlock_ret ?_) | (with_reducible refine then_normal ?_) | (with_reducible refine inBlock_normal ?_))); show bodyPost Tryz.prog Tryz.f29 _ Exit.ret a8 w8; obtain ⟨r0, hr0, hs0⟩ := BoxC.load (All.box XL8 2 rfl) aggF (ff_str _); subst hc0; exact bodyPost_ret (res_ct rfl _ (XE8.at 4 rfl) hr0 (XE8.at 5 rfl)) XE8.2.1 ⟨_, rfl, ⟨_, rfl, hs0⟩, XN8.new0⟩
 · have h0 : q ≠ 0 := by omega
   have hmk : mkV p q = Rat.divInt p q := if_neg h0; have he : mkE q = 0 := if_neg h0; refine region_st [[], [0], [1]] [7, 8, 9] [] (tyvC [(7, (wfC (q))), (8, (iE (cmpI q 0))), (9, (bE false))]) XE1 XG1 XL1 (fun Q => ⟨sLb 7 (rO 3) 1 aggInt (wf_str _), sC1 8 (rS 7 0) (fun K h0 => k_wsign h0) Tryz.func24, sBin 9 (z := Value.int .i64 (cmpI q 0)) (z' := Value.int IntKind.i64 0) (u := Value.bool false) (rS 8 1) (rK (Value.int IntKind.i64 0)) (fun h h' => ⟨h, rfl⟩) (eqg_int _ _ _ _ _ _ _ _) (run_as (run_eql _ _ _ _) (by rw [cmpI_gt hq]; rfl)), trivial⟩) ?_; intro bX fX w9 c9 a9 XG9 yx yA yB yV yO yF; have XE9 := XE1.up yF yO (ck (kv (yV 9 rfl) rfl) kn); have XL9 := (yA.pk yB rfl [0, 1, 2]); have XN9 := XN1.trans yx rfl; clear yx yA yB yV yO yF; show Code.wp _ _ _ _ _; refine wp_cond (t := false) (XE9.at 9 rfl) ?_; refine wp_skip ?_; show Code.wp _ _ _ _ _; refine wp_seq ?_; refine wp_seq ?_; refine region_st [[], [0], [1]] [11, 12, 13] [] (tyvC [(11, (wfC (q))), (12, (iE (cmpI q 0))), (13, (bE false))]) XE9 XG9 XL9 (fun Q => ⟨sLb 11 (rO 3) 1 aggInt (wf_str _), sC1 12 (rS 11 0) (fun K h0 => k_wsign h0) Tryz.func24, sBin 13 (z := Value.int .i64 (cmpI q 0)) (z' := Value.int IntKind.i64 0) (u := Value.bool false) (rS 12 1) (rK (Value.int IntKind.i64 0)) (fun h h' => ⟨h, rfl⟩) (eqg_int _ _ _ _ _ _ _ _) (run_as (run_lss _ _ _ _) (by rw [cmpI_gt hq]; rfl)), trivial⟩) ?_; intro bX fX w10 c10 a10 XG10 yx yA yB yV yO yF; have XE10 := XE9.up yF yO (ck (kv (yV 13 rfl) rfl) kn); have XL10 := (yA.pk yB rfl [0, 1, 2]); have XN10 := XN9.trans yx rfl; clear yx yA yB yV yO yF; show Code.wp _ _ _ _ _; refine wp_cond (t := false) (XE10.at 13 rfl) ?_; refine wp_skip ?_; show Code.wp _ _ _ _ _; have hgne : ((Int.gcd p q : Nat) : Int) ≠ 0 := gcd_ne (by omega); refine wp_seq ?_; refine region_st [[], [], [0, 1], [], [2, 3]] [6, 18, 19, 20] [25] (tyvC [(6, PT), (18, (wfC (p))), (19, (wfC (q))), (20, (wfC (((Int.gcd p q : Nat) : Int))))]) XE10 XG10 (All.cn 6 25 35 4 #[.bool false, .slice none 0 0] (wfC (((Int.gcd p q : Nat) : Int))) XL10) (fun Q => ⟨sLb 18 (rO 2) 1 aggInt (wf_str _), sLb 19 (rO 3) 2 aggInt (wf_str _), sC2 20 (rS 18 0) (rS 19 1) (fun K h0 h1 => k_wgcd h0 h1 (by omega)) Tryz.func100, sAl 6 25 (zeroI _), sStn 6 25 3 0 (rS 20 2) aggInt (wf_str _), trivial⟩) ?_; intro bX fX w11 c11 a11 XG11 yx yA yB yV yO yF; obtain ⟨g6_11, e6⟩ := kp (yV 6 rfl) rfl; have XE11 := XE10.up yF yO (ck e6 kn); have XL11 := (All.cb (yA.nb 0 rfl e6 (yB 4 (by decide))) (yA.pk yB rfl [1, 2, 3])); have XN11 := XN10.trans yx rfl; clear yx yA yB yV yO yF; show Code.wp _ _ _ _ _; refine wp_seq ?_; have hn1 : p / ((Int.gcd p q : Nat) : Int) = (mkV p q).num := by rw [hmk]; exact (make_pos (p := p) hq).1
   have hn2 : q / ((Int.gcd p q : Nat) : Int) = dn (mkV p q) := by rw [hmk]; exact (make_pos (p := p) hq).2
   refine region_st [[], [], [0, 1], [], [], [3, 4], [2, 5], [6], []] [5, 21, 22, 23, 24, 25, 26, 27] [23] (tyvC [(5, (iE 0)), (21, (wfC (p))), (22, (wfC (((Int.gcd p q : Nat) : Int)))), (23, (wfC (p / ((Int.gcd p q : Nat) : Int)))), (24, (wfC (q))), (25, (wfC (((Int.gcd p q : Nat) : Int)))), (26, (wfC (q / ((Int.gcd p q : Nat) : Int)))), (27, (ffC (mkV p q)))]) XE11 XG11 (All.stg 3 7 (Fact.box g4_1 52 23 (ffC (mkV p q))) XL11) (fun Q => ⟨sLb 21 (rO 2) 1 aggInt (wf_str _), sLb 22 (rO 6) 0 aggInt (wf_str _), sC2 23 (rS 21 0) (rS 22 1) (fun K h0 h1 => k_over h0 h1 hgne) Tryz.func101, sLb 24 (rO 3) 2 aggInt (wf_str _), sLb 25 (rO 6) 0 aggInt (wf_str _), sC2 26 (rS 24 3) (rS 25 4) (fun K h0 h1 => k_over h0 h1 hgne) Tryz.func101, sB2 27 (rS 23 2) (rS 26 5) (fun K h0 h1 => b_ff (r := mkV p q) (wf_cast hn1 h0) (wf_cast hn2 h1)), sSto 23 (rO 4) (rS 27 6) aggF (ff_str _) (fun K => BoxC.old (K.fac.sb0 3 rfl K.self) (ff_str _)) (fun K h0 => h0), sMv 5 (rK (Value.int IntKind.i64 0)), trivial⟩) ?_; intro bX fX w12 c12 a12 XG12 yx yA yB yV yO yF; have XE12 := XE11.up yF yO (ck (kv (yV 5 rfl) rfl) kn); have XL12 := (yA.pk yB rfl [3]); have XN12 := XN11.trans yx rfl; clear yx yA yB yV yO yF; show Code.wp _ _ _ _ _; rw [he]; refine wp_ret ?_; (repeat (first | (with_reducible refine then_ret ?_) | (with_reducible refine inBlock_ret ?_) | (with_reducible refine then_normal ?_) | (with_reducible refine inBlock_normal ?_))); show bodyPost Tryz.prog Tryz.f29 _ Exit.ret a12 w12; obtain ⟨r0, hr0, hs0⟩ := BoxC.load (All.box XL12 0 rfl) aggF (ff_str _); subst hc0; exact bodyPost_ret (res_ct rfl _ (XE12.at 4 rfl) hr0 (XE12.at 5 rfl)) XE12.2.1 ⟨_, rfl, ⟨_, rfl, hs0⟩, XN12.new0⟩

theorem k_make {w : World} {c : Colr} {v v' : Value} {x y : Int} (h : (wfC x).sat v w c) (h' : (wfC y).sat v' w c) : CV Tryz.prog 29 #[v, v'] w c ((ffC (mkV x y)).tup1 (.int .i64 (mkE y))) := (t_make w v v' x y h h').cv (plain_tup1 (pl_ff _))
set_option maxRecDepth 100000 in
set_option maxHeartbeats 4000000 in
theorem t_fof (w : World) (p q : Int) (hp : I64 p) (hq : I64 q) : CT0 Tryz.prog 33 #[Value.int .i64 p, Value.int .i64 q] w (TyC.tup1 (ffC (mkV p q)) (Value.int .i64 (mkE q))) := by
 refine enter_st Tryz.func33 rfl Tryz.ntmps33 [(0, Value.int .i64 p), (1, Value.int .i64 q)] rfl ⟨rfl, rfl, trivial⟩ (Nat.le_of_ble_eq_true rfl) ?_; intro a0 XE0; obtain ⟨c0, hc0⟩ : ∃ c0 : Colr, c0 = fun _ => 0 := ⟨_, rfl⟩; have XG0 : GI w c0 := hc0 ▸ GI.zero w; have XN0 : Ext [21] w c0 w c0 := Ext.refl rfl XG0; have XL0 : All [] b0 f0 w c0 := trivial; refine wp_seq ?_; refine region_st [[], []] [4, 5] [21] (tyvC [(4, PT), (5, (iE 0))]) XE0 XG0 (All.cn 4 21 52 0 #[] (ffC (0)) XL0) (fun Q => ⟨sAlz 4 21 (zeroF _) (ff_zero), sMv 5 (rK (Value.int IntKind.i64 0)), trivial⟩) ?_; intro bX fX w1 c1 a1 XG1 yx yA yB yV yO yF; obtain ⟨g4_1, e4⟩ := kp (yV 4 rfl) rfl; have XE1 := XE0.up yF yO (ck e4 (ck (kv (yV 5 rfl) rfl) kn)); have XL1 := (All.cb (yA.nb 0 rfl e4 (yB 0 (by decide))) (yA.pk yB rfl [])); have XN1 := XN0.trans yx rfl; clear yx yA yB yV yO yF; show Code.wp _ _ _ _ _; refine wp_seq ?_; refine region_st [[], [0], [], [2], [1, 3], [4], [4], [5], [6]] [5, 6, 7, 8, 9, 10, 11, 12] [21] (tyvC [(5, (iE (mkE q))), (6, (iE p)), (7, (wfC (p))), (8, (iE q)), (9, (wfC (q))), (10, (TyC.tup1 (ffC (mkV p q)) (Value.int .i64 (mkE q)))), (11, (ffC (mkV p q))), (12, (iE (mkE q)))]) XE1 XG1 (All.stg 0 7 (Fact.box g4_1 52 21 (ffC (mkV p q))) XL1) (fun Q => ⟨sMv 6 (rO 0), sC1 7 (rS 6 0) (fun K h0 => by cases h0; exact k_from (p) (by first | omega | assumption)) Tryz.func50, sMv 8 (rO 1), sC1 9 (rS 8 2) (fun K h0 => by cases h0; exact k_from (q) (by first | omega | assumption)) Tryz.func50, sC2 10 (rS 7 1) (rS 9 3) (fun K h0 h1 => k_make h0 h1) Tryz.func29, sEx 11 (rS 10 4) ex10, sEx 12 (rS 10 4) ex11, sSto 21 (rO 4) (rS 11 5) aggF (ff_str _) (fun K => BoxC.old (K.fac.sb0 0 rfl K.self) (ff_str _)) (fun K h0 => h0), sMv 5 (rS 12 6), trivial⟩) ?_; intro bX fX w2 c2 a2 XG2 yx yA yB yV yO yF; have XE2 := XE1.up yF yO (ck (kv (yV 5 rfl) rfl) kn); have XL2 := (yA.pk yB rfl [0]); have XN2 := XN1.trans yx rfl; clear yx yA yB yV yO yF; show Code.wp _ _ _ _ _; refine wp_ret ?_; (repeat (first | (with_reducible refine then_ret ?_) | (with_reducible refine inBlock_ret ?_) | (with_reducible refine then_normal ?_) | (with_reducible refine inBlock_normal ?_))); show bodyPost Tryz.prog Tryz.f33 _ Exit.ret a2 w2; obtain ⟨r0, hr0, hs0⟩ := BoxC.load (All.box XL2 0 rfl) aggF (ff_str _); subst hc0; exact bodyPost_ret (res_ct rfl _ (XE2.at 4 rfl) hr0 (XE2.at 5 rfl)) XE2.2.1 ⟨_, rfl, ⟨_, rfl, hs0⟩, XN2.new0⟩

theorem k_fof {w : World} {c : Colr} (p q : Int) (hp : I64 p) (hq : I64 q) : CV Tryz.prog 33 #[.int .i64 p, .int .i64 q] w c ((ffC (mkV p q)).tup1 (.int .i64 (mkE q))) := (t_fof w p q hp hq).cv (plain_tup1 (pl_ff _))
set_option maxRecDepth 100000 in
set_option maxHeartbeats 4000000 in
theorem t_fsign (w : World) (v : Value) (x : Rat) (h : (ffC x).sat v w (fun _ => 0)) : CT0 Tryz.prog 54 #[v] w (iE (cmpI x.num 0)) := by
 refine enter_st Tryz.func54 rfl Tryz.ntmps54 [(0, v)] rfl ⟨rfl, trivial⟩ (Nat.le_of_ble_eq_true rfl) ?_; intro a0 XE0; obtain ⟨c0, hc0⟩ : ∃ c0 : Colr, c0 = fun _ => 0 := ⟨_, rfl⟩; have XG0 : GI w c0 := hc0 ▸ GI.zero w; have XN0 : Ext [21] w c0 w c0 := Ext.refl rfl XG0; have XL0 : All [.s (Fact.val (ffC (x)) v)] b0 f0 w c0 := ⟨(hc0 ▸ h), trivial⟩; refine wp_seq ?_; refine region_st [[], []] [1, 2] [21] (tyvC [(1, PT), (2, (iE 0))]) XE0 XG0 (All.cn 1 21 52 0 #[] (ffC (x)) XL0) (fun Q => ⟨sBox 1 21 (rO 0) (fun K h0 => bxs (ff_str _) (K.fac.val 1 rfl)), sMv 2 (rK (Value.int IntKind.i64 0)), trivial⟩) ?_; intro bX fX w1 c1 a1 XG1 yx yA yB yV yO yF; obtain ⟨g1_1, e1⟩ := kp (yV 1 rfl) rfl; have XE1 := XE0.up yF yO (ck e1 (ck (kv (yV 2 rfl) rfl) kn)); have XL1 := (All.cb (yA.nb 0 rfl e1 (yB 0 (by decide))) (yA.pk yB rfl [])); have XN1 := XN0.trans yx rfl; clear yx yA yB yV yO yF; show Code.wp _ _ _ _ _; refine wp_seq ?_; refine region_st [[], [0], [1], [2]] [2, 3, 4, 5] [] (tyvC [(2, (iE (cmpI ((x).num) 0))), (3, (pE g1_1 0)), (4, (wfC ((x).num))), (5, (iE (cmpI ((x).num) 0)))]) XE1 XG1 XL1 (fun Q => ⟨sFa 3 (rO 1) (fld_f0 _), sLf 4 (rS 3 0) (fun K => lf_num (K.fac.box 0 rfl)), sC1 5 (rS 4 1) (fun K h0 => k_wsign h0) Tryz.func24, sMv 2 (rS 5 2), trivial⟩) ?_; intro bX fX w2 c2 a2 XG2 yx yA yB yV yO yF; have XE2 := XE1.up yF yO (ck (kv (yV 2 rfl) rfl) kn); have XL2 := (yA.pk yB rfl []); have XN2 := XN1.trans yx rfl; clear yx yA yB yV yO yF; show Code.wp _ _ _ _ _; refine wp_ret ?_; (repeat (first | (with_reducible refine then_ret ?_) | (with_reducible refine inBlock_ret ?_) | (with_reducible refine then_normal ?_) | (with_reducible refine inBlock_normal ?_))); show bodyPost Tryz.prog Tryz.f54 _ Exit.ret a2 w2; subst hc0; exact bodyPost_ret (res_t rfl _ (XE2.at 2 rfl)) XE2.2.1 ⟨_, rfl, rfl, XN2.new0⟩

theorem k_fsign {w : World} {c : Colr} {v : Value} {r : Rat} (h : (ffC r).sat v w c) : CV Tryz.prog 54 #[v] w c (TyC.eq (.int .i64 (cmpI r.num 0))) := (t_fsign w v r h).cv (plain_eq _)
set_option maxRecDepth 100000 in
set_option maxHeartbeats 4000000 in
theorem t_den (w : World) (v : Value) (x : Rat) (z : Int) (h : (fdC x z).sat v w (fun _ => 0)) (hz : z = dn x ∨ (z = 0 ∧ dn x = 1)) : CT0 Tryz.prog 64 #[v] w (wfC (dn x)) := by
 refine enter_st Tryz.func64 rfl Tryz.ntmps64 [(0, v)] rfl ⟨rfl, trivial⟩ (Nat.le_of_ble_eq_true rfl) ?_; intro a0 XE0; obtain ⟨c0, hc0⟩ : ∃ c0 : Colr, c0 = fun _ => 0 := ⟨_, rfl⟩; have XG0 : GI w c0 := hc0 ▸ GI.zero w; have XN0 : Ext [21, 22] w c0 w c0 := Ext.refl rfl XG0; have XL0 : All [.s (Fact.val (fdC x z) v)] b0 f0 w c0 := ⟨(hc0 ▸ h), trivial⟩; refine wp_seq ?_; refine region_st [[], []] [1, 2] [21, 22] (tyvC [(1, PT), (2, PT)]) XE0 XG0 (All.cn 1 21 52 0 #[] (fdC x z) (All.cn 2 22 35 1 #[] (wfC (0)) XL0)) (fun Q => ⟨sBox 1 21 (rO 0) (fun K h0 => bxs (fd_str _ _) (K.fac.val 2 rfl)), sAlz 2 22 (zeroI _) (wf_zero), trivial⟩) ?_; intro bX fX w1 c1 a1 XG1 yx yA yB yV yO yF; obtain ⟨g1_1, e1⟩ := kp (yV 1 rfl) rfl; obtain ⟨g2_1, e2⟩ := kp (yV 2 rfl) rfl; have XE1 := XE0.up yF yO (ck e1 (ck e2 kn)); have XL1 := (All.cb (yA.nb 0 rfl e1 (yB 0 (by decide))) (All.cb (yA.nb 1 rfl e2 (yB 1 (by decide))) (yA.pk yB rfl []))); have XN1 := XN0.trans yx rfl; clear yx yA yB yV yO yF; show Code.wp _ _ _ _ _; refine wp_seq ?_; refine wp_seq ?_; by_cases h0 : z = 0
 · have e : dn x = 1 := by have := dn_pos x; omega
   rw [e]; refine region_st [[], [0], [1], [2]] [3, 4, 5, 6] [] (tyvC [(3, (pE g1_1 2)), (4, (wfC (z))), (5, (iE (cmpI z 0))), (6, (bE true))]) XE1 XG1 XL1 (fun Q => ⟨sFa 3 (rO 1) (fld_f1 _), sLf 4 (rS 3 0) (fun K => lfd_den (K.fac.box 0 rfl)), sC1 5 (rS 4 1) (fun K h0 => k_wsign h0) Tryz.func24, sBin 6 (z := Value.int .i64 (cmpI z 0)) (z' := Value.int IntKind.i64 0) (u := Value.bool true) (rS 5 2) (rK (Value.int IntKind.i64 0)) (fun h h' => ⟨h, rfl⟩) (eqg_int _ _ _ _ _ _ _ _) (run_as (run_eql _ _ _ _) (by rw [cmpI_eq h0]; rfl)), trivial⟩) ?_; intro bX fX w2 c2 a2 XG2 yx yA yB yV yO yF; have XE2 := XE1.up yF yO (ck (kv (yV 6 rfl) rfl) kn); have XL2 := (yA.pk yB rfl [0, 1]); have XN2 := XN1.trans yx rfl; clear yx yA yB yV yO yF; show Code.wp _ _ _ _ _; refine wp_cond (t := true) (XE2.at 6 rfl) ?_; refine wp_seq ?_; refine region_st [[], [0]] [7] [22] (tyvC [(7, (wfC (1)))]) XE2 XG2 (All.stg 1 1 (Fact.box g2_1 35 22 (wfC (1))) XL2) (fun Q => ⟨sC1 7 (rK (Value.int IntKind.i64 1)) (fun K h0 => k_from (1) (by first | omega | assumption)) Tryz.func50, sSto 22 (rO 2) (rS 7 0) aggInt (wf_str _) (fun K => BoxC.old (K.fac.sb0 1 rfl K.self) (wf_str _)) (fun K h0 => h0), trivial⟩) ?_; intro bX fX w3 c3 a3 XG3 yx yA yB yV yO yF; have XE3 := XE2.up yF yO kn; have XL3 := (yA.pk yB rfl [0, 1]); have XN3 := XN2.trans yx rfl; clear yx yA yB yV yO yF; show Code.wp _ _ _ _ _; refine wp_ret ?_; (repeat (first | (with_reducible refine then_ret ?_) | (with_reducible refine inBlock_ret ?_) | (with_reducible refine then_normal ?_) | (with_reducible refine inBlock_normal ?_))); show bodyPost Tryz.prog Tryz.f64 _ Exit.ret a3 w3; obtain ⟨r0, hr0, hs0⟩ := BoxC.load (All.box XL3 1 rfl) aggInt (wf_str _); subst hc0; exact bodyPost_ret (res_c rfl _ (XE3.at 2 rfl) hr0) XE3.2.1 ⟨_, rfl, hs0, XN3.new0⟩
 · have e : dn x = z := by omega
   have hp : 0 < z := by have := dn_pos x; omega
   rw [e]; refine region_st [[], [0], [1], [2]] [3, 4, 5, 6] [] (tyvC [(3, (pE g1_1 2)), (4, (wfC (z))), (5, (iE (cmpI z 0))), (6, (bE false))]) XE1 XG1 XL1 (fun Q => ⟨sFa 3 (rO 1) (fld_f1 _), sLf 4 (rS 3 0) (fun K => lfd_den (K.fac.box 0 rfl)), sC1 5 (rS 4 1) (fun K h0 => k_wsign h0) Tryz.func24, sBin 6 (z := Value.int .i64 (cmpI z 0)) (z' := Value.int IntKind.i64 0) (u := Value.bool false) (rS 5 2) (rK (Value.int IntKind.i64 0)) (fun h h' => ⟨h, rfl⟩) (eqg_int _ _ _ _ _ _ _ _) (run_as (run_eql _ _ _ _) (by rw [cmpI_gt hp]; rfl)), trivial⟩) ?_; intro bX fX w4 c4 a4 XG4 yx yA yB yV yO yF; have XE4 := XE1.up yF yO (ck (kv (yV 6 rfl) rfl) kn); have XL4 := (yA.pk yB rfl [0, 1]); have XN4 := XN1.trans yx rfl; clear yx yA yB yV yO yF; show Code.wp _ _ _ _ _; refine wp_cond (t := false) (XE4.at 6 rfl) ?_; refine wp_skip ?_; show Code.wp _ _ _ _ _; refine wp_seq ?_; refine region_st [[], [0], [1]] [8, 9] [22] (tyvC [(8, (pE g1_1 2)), (9, (wfC (z)))]) XE4 XG4 (All.stg 1 2 (Fact.box g2_1 35 22 (wfC (z))) XL4) (fun Q => ⟨sFa 8 (rO 1) (fld_f1 _), sLf 9 (rS 8 0) (fun K => lfd_den (K.fac.box 0 rfl)), sSto 22 (rO 2) (rS 9 1) aggInt (wf_str _) (fun K => BoxC.old (K.fac.sb0 1 rfl K.self) (wf_str _)) (fun K h0 => h0), trivial⟩) ?_; intro bX fX w5 c5 a5 XG5 yx yA yB yV yO yF; have XE5 := XE4.up yF yO kn; have XL5 := (yA.pk yB rfl [1]); have XN5 := XN4.trans yx rfl; clear yx yA yB yV yO yF; show Code.wp _ _ _ _ _; refine wp_ret ?_; (repeat (first | (with_reducible refine then_ret ?_) | (with_reducible refine inBlock_ret ?_) | (with_reducible refine then_normal ?_) | (with_reducible refine inBlock_normal ?_))); show bodyPost Tryz.prog Tryz.f64 _ Exit.ret a5 w5; obtain ⟨r0, hr0, hs0⟩ := BoxC.load (All.box XL5 0 rfl) aggInt (wf_str _); subst hc0; exact bodyPost_ret (res_c rfl _ (XE5.at 2 rfl) hr0) XE5.2.1 ⟨_, rfl, hs0, XN5.new0⟩

theorem k_den {w : World} {c : Colr} {v : Value} {r : Rat} (h : (ffC r).sat v w c) : CV Tryz.prog 64 #[v] w c (wfC (dn r)) := by
  obtain ⟨z, hz, h1⟩ := ff_fd h
  exact (t_den w v r z h1 hz).cv (pl_wf _)
/-- The product so far: of no factor, of one, of both. -/
def PF (x y : Int) (k : Nat) (z : Int) : Prop := (k = 0 → z = 1) ∧ (k = 1 → z = x) ∧ (k = 2 → z = x * y ∧ fit (x * y))
theorem PF0 (x y : Int) : PF x y 0 1 := ⟨fun _ => rfl, fun h => by omega, fun h => by omega⟩
theorem PF_at {x y z : Int} {k : Nat} {Ls : List Int} (hL : Ls = [x, y]) (h : PF x y k z) (hk : k < 2) : (k = 0 ∧ z * Ls.getD k 0 = x) ∨ (k = 1 ∧ z * Ls.getD k 0 = x * y) := by
  subst hL
  match k, hk with
  | 0, _ => left; exact ⟨rfl, by rw [h.1 rfl]; show 1 * x = x; omega⟩
  | 1, _ => right; exact ⟨rfl, by rw [h.2.1 rfl]; rfl⟩
theorem PFn {x y z : Int} {k : Nat} {Ls : List Int} (hL : Ls = [x, y]) (h : PF x y k z) (hk : k < 2) (hf : fit (z * Ls.getD k 0)) : PF x y (k + 1) (rg (z * Ls.getD k 0)) := by
  rw [(rg_in hf).1]
  rcases PF_at hL h hk with ⟨rfl, e⟩ | ⟨rfl, e⟩
  · exact ⟨fun h => by omega, fun _ => e, fun h => by omega⟩
  · exact ⟨fun h => by omega, fun h => by omega, fun _ => ⟨e, e ▸ hf⟩⟩
theorem PFx {x y z : Int} {k : Nat} {Ls : List Int} (hL : Ls = [x, y]) (h : PF x y k z) (hk : k < 2) (fx : fit x) (hf : ¬ fit (z * Ls.getD k 0)) : rg (x * y) = 0 ∧ rgE (x * y) = rgE (z * Ls.getD k 0) := by
  rcases PF_at hL h hk with ⟨rfl, e⟩ | ⟨rfl, e⟩
  · exact absurd (e ▸ fx) hf
  · rw [e] at hf ⊢
    exact ⟨(rg_out hf).1, rfl⟩
theorem PF2 {x y z : Int} {k : Nat} (h : PF x y k z) (hk : k ≤ 2) (hn : ¬ k < 2) : rg (x * y) = z ∧ rgE (x * y) = 0 := by
  obtain ⟨e, hf⟩ := h.2.2 (by omega)
  rw [e]
  exact rg_in hf
set_option maxRecDepth 100000 in
set_option maxHeartbeats 4000000 in
theorem t_product (w : World) (G : Nat) (x y : Int) (Ls : List Int) (hLs : Ls = [x, y]) (fx : fit x) (h : (seqC 2 (Ls.map wfC)).sat (Value.slice (some ⟨G, 0, none⟩) 2 2) w (fun _ => 0)) : CT0 Tryz.prog 104 #[Value.slice (some ⟨G, 0, none⟩) 2 2] w (TyC.tup1 (wfC (rg (x * y))) (Value.int .i64 (rgE (x * y)))) := by
 refine enter_st Tryz.func104 rfl Tryz.ntmps104 [(0, Value.slice (some ⟨G, 0, none⟩) 2 2)] rfl ⟨rfl, trivial⟩ (Nat.le_of_ble_eq_true rfl) ?_; intro a0 XE0; obtain ⟨c0, hc0⟩ : ∃ c0 : Colr, c0 = fun _ => 0 := ⟨_, rfl⟩; have XG0 : GI w c0 := hc0 ▸ GI.zero w; have XN0 : Ext [21, 22, 23] w c0 w c0 := Ext.refl rfl XG0; have XL0 : All [.s (Fact.val (seqC 2 (Ls.map wfC)) (Value.slice (some ⟨G, 0, none⟩) 2 2))] b0 f0 w c0 := ⟨(hc0 ▸ h), trivial⟩; refine wp_seq ?_; refine region_st [[], []] [2, 3] [21] (tyvC [(2, PT), (3, (iE 0))]) XE0 XG0 (All.cn 2 21 35 0 #[] (wfC (0)) XL0) (fun Q => ⟨sAlz 2 21 (zeroI _) (wf_zero), sMv 3 (rK (Value.int IntKind.i64 0)), trivial⟩) ?_; intro bX fX w1 c1 a1 XG1 yx yA yB yV yO yF; obtain ⟨g2_1, e2⟩ := kp (yV 2 rfl) rfl; have XE1 := XE0.up yF yO (ck e2 (ck (kv (yV 3 rfl) rfl) kn)); have XL1 := (All.cb (yA.nb 0 rfl e2 (yB 0 (by decide))) (yA.pk yB rfl [1])); have XN1 := XN0.trans yx rfl; clear yx yA yB yV yO yF; show Code.wp _ _ _ _ _; refine wp_seq ?_; refine region_st [[], [], [0, 1]] [4, 8] [22] (tyvC [(4, PT), (8, (wfC (1)))]) XE1 XG1 (All.cn 4 22 35 2 #[.bool false, .slice none 0 0] (wfC (1)) XL1) (fun Q => ⟨sC1 8 (rK (Value.int IntKind.i64 1)) (fun K h0 => k_from (1) (by first | omega | assumption)) Tryz.func50, sAl 4 22 (zeroI _), sStn 4 22 1 0 (rS 8 0) aggInt (wf_str _), trivial⟩) ?_; intro bX fX w2 c2 a2 XG2 yx yA yB yV yO yF; obtain ⟨g4_2, e4⟩ := kp (yV 4 rfl) rfl; have XE2 := XE1.up yF yO (ck e4 kn); have XL2 := (All.cb (yA.nb 0 rfl e4 (yB 2 (by decide))) (yA.pk yB rfl [1, 2])); have XN2 := XN1.trans yx rfl; clear yx yA yB yV yO yF; show Code.wp _ _ _ _ _; refine wp_seq ?_; refine wp_seq ?_; refine region_st [[], [0], []] [9, 10, 11] [] (tyvC [(9, (TyC.eq (Value.slice (some ⟨G, 0, none⟩) 2 2))), (10, (iE 2)), (11, (iE 0))]) XE2 XG2 XL2 (fun Q => ⟨sMv 9 (rO 0), sSlen 10 (rS 9 0) Tryz.underlying184 (fun K h => h), sMv 11 (rK (Value.int IntKind.i64 0)), trivial⟩) ?_; intro bX fX w3 c3 a3 XG3 yx yA yB yV yO yF; have XE3 := XE2.up yF yO (ck (kv (yV 9 rfl) rfl) (ck (kv (yV 10 rfl) rfl) (ck (kv (yV 11 rfl) rfl) kn))); have XL3 := (yA.pk yB rfl [0, 1, 2]); have XN3 := XN2.trans yx rfl; clear yx yA yB yV yO yF; show Code.wp _ _ _ _ _; refine wp_block ?_; refine loop_ghost (fun nZ aZ wZ => ∃ (cZ : Colr) (k : Nat) (z : Int), Ev 27 aZ (mof [(9, Value.slice (some ⟨G, 0, none⟩) 2 2), (10, Value.int .i64 2), (11, Value.int .i64 (↑k)), (4, Value.pointer (some ⟨g4_2, 0, none⟩)), (2, Value.pointer (some ⟨g2_1, 0, none⟩)), (3, Value.int IntKind.i64 0)]) ∧ GI wZ cZ ∧ Ext [21, 22, 23] w c0 wZ cZ ∧ All [.s (Fact.box g4_2 35 22 (wfC (z))), .s (Fact.box g2_1 35 21 (wfC (0))), .s (Fact.val (seqC 2 (Ls.map wfC)) (Value.slice (some ⟨G, 0, none⟩) 2 2))] b0 f0 wZ cZ ∧ (k ≤ 2) ∧ (PF x y k z) ∧ (2 - k = nZ)) (2) ⟨c3, 0, 1, (Ev.sub XE3 _ ⟨rfl, rfl, rfl, rfl, rfl, rfl, trivial⟩), XG3, XN3, ⟨(All.box XL3 0 rfl), (All.box XL3 1 rfl), (All.val XL3 2 rfl), trivial⟩, Nat.zero_le _, PF0 x y, rfl⟩ ?_; intro n_ ar1 wr1; rintro ⟨cr1, k, z, XEr1, XGr1, XNr1, XLr1, hk, hz, hm_⟩
 refine wp_seq ?_; by_cases hl : k < 2
 · skip
   refine region_st [[]] [12] [] (tyvC [(12, (bE true))]) XEr1 XGr1 XLr1 (fun Q => ⟨sBin 12 (z := Value.int .i64 (↑k)) (z' := Value.int .i64 2) (u := Value.bool true) (rO 11) (rO 10) (fun h h' => ⟨rfl, rfl⟩) (eqg_int _ _ _ _ _ _ _ _) (run_as (run_lss _ _ _ _) (by simp; omega)), trivial⟩) ?_; intro bX fX w4 c4 a4 XG4 yx yA yB yV yO yF; have XE4 := XEr1.up yF yO (ck (kv (yV 12 rfl) rfl) kn); have XL4 := (yA.pk yB rfl [0, 1, 2]); have XN4 := XNr1.trans yx rfl; clear yx yA yB yV yO yF; show Code.wp _ _ _ _ _; refine wp_seq ?_; refine wp_cond (t := true) (XE4.at 12 rfl) ?_; refine wp_skip ?_; show Code.wp _ _ _ _ _; refine wp_seq ?_; refine wp_block ?_; refine wp_seq ?_; refine region_st [[], [0], [], [1, 2]] [6, 13, 14] [23] (tyvC [(6, PT), (13, (refC 2 (wfC (Ls.getD k 0)))), (14, (wfC (Ls.getD k 0)))]) XE4 XG4 (All.cn 6 23 35 3 #[.bool false, .slice none 0 0] (wfC (Ls.getD k 0)) XL4) (fun Q => ⟨sIx 13 (rO 9) (rO 11) (fun K h0 h1 => seq_index (P := Tryz.prog) (k := k) Tryz.underlying184 (by kernel_rfl) (K.fac.val 3 rfl) (map_getD (d := 0) (f := wfC) (xs := Ls) (by rw [hLs]; simp; omega))), sLd 14 (rS 13 0) (fun K h0 => ref_load aggInt h0), sAl 6 23 (zeroI _), sStn 6 23 2 0 (rS 14 1) aggInt (wf_str _), trivial⟩) ?_; intro bX fX w5 c5 a5 XG5 yx yA yB yV yO yF; obtain ⟨g6_5, e6⟩ := kp (yV 6 rfl) rfl; have XE5 := XE4.up yF yO (ck e6 kn); have XL5 := (All.cb (yA.nb 0 rfl e6 (yB 3 (by decide))) (yA.pk yB rfl [1, 2, 3])); have XN5 := XN4.trans yx rfl; clear yx yA yB yV yO yF; show Code.wp _ _ _ _ _; refine wp_seq ?_; refine region_st [[]] [7] [] (tyvC [(7, (iE 0))]) XE5 XG5 XL5 (fun Q => ⟨sMv 7 (rK (Value.int IntKind.i64 0)), trivial⟩) ?_; intro bX fX w6 c6 a6 XG6 yx yA yB yV yO yF; have XE6 := XE5.up yF yO (ck (kv (yV 7 rfl) rfl) kn); have XL6 := (yA.pk yB rfl [0, 1, 2, 3]); have XN6 := XN5.trans yx rfl; clear yx yA yB yV yO yF; show Code.wp _ _ _ _ _; refine wp_seq ?_; refine region_st [[], [], [0, 1], [2], [3], [3], [0, 4], [5]] [7, 15, 16, 17, 18, 19, 20] [22] (tyvC [(7, (iE (rgE (z * (Ls.getD k 0))))), (15, (TyC.tup1 (wfC (rg (z * (Ls.getD k 0)))) (Value.int .i64 (rgE (z * (Ls.getD k 0)))))), (16, (wfC (z))), (17, (wfC (Ls.getD k 0))), (18, (TyC.tup1 (wfC (rg (z * (Ls.getD k 0)))) (Value.int .i64 (rgE (z * (Ls.getD k 0)))))), (19, (wfC (rg (z * (Ls.getD k 0))))), (20, (iE (rgE (z * (Ls.getD k 0)))))]) XE6 XG6 (All.stg 1 6 (Fact.box g4_2 35 22 (wfC (rg (z * (Ls.getD k 0))))) XL6) (fun Q => ⟨sLf 16 (rO 4) (fun K => BoxC.load (K.fac.sb0 1 rfl (K.nyet 6 rfl)) aggInt (wf_str _)), sLb 17 (rO 6) 0 aggInt (wf_str _), sC2 18 (rS 16 0) (rS 17 1) (fun K h0 h1 => k_wmul h0 h1) Tryz.func129, sMv 15 (rS 18 2), sEx 19 (rS 15 3) ex10, sEx 20 (rS 15 3) ex11, sSto 22 (rO 4) (rS 19 4) aggInt (wf_str _) (fun K => BoxC.old (K.fac.sb0 1 rfl K.self) (wf_str _)) (fun K h0 => h0), sMv 7 (rS 20 5), trivial⟩) ?_; intro bX fX w7 c7 a7 XG7 yx yA yB yV yO yF; have XE7 := XE6.up yF yO (ck (kv (yV 7 rfl) rfl) kn); have XL7 := (yA.pk yB rfl [0, 1, 2, 3]); have XN7 := XN6.trans yx rfl
   clear yx yA yB yV yO yF; show Code.wp _ _ _ _ _; refine wp_seq ?_; by_cases hf : fit (z * Ls.getD k 0)
   · skip
     refine region_st [[], [0]] [21, 22] [] (tyvC [(21, (iE (rgE (z * (Ls.getD k 0))))), (22, (bE false))]) XE7 XG7 XL7 (fun Q => ⟨sMv 21 (rO 7), sBin 22 (z := Value.int .i64 (rgE (z * (Ls.getD k 0)))) (z' := Value.int IntKind.i64 0) (u := Value.bool false) (rS 21 0) (rK (Value.int IntKind.i64 0)) (fun h h' => ⟨h, rfl⟩) (eqg_int _ _ _ _ _ _ _ _) (run_as (run_neq _ _ _ _) (by rw [(rg_in hf).2]; rfl)), trivial⟩) ?_; intro bX fX w8 c8 a8 XG8 yx yA yB yV yO yF; have XE8 := XE7.up yF yO (ck (kv (yV 22 rfl) rfl) kn); have XL8 := (yA.pk yB rfl [0, 1, 2, 3]); have XN8 := XN7.trans yx rfl; clear yx yA yB yV yO yF; show Code.wp _ _ _ _ _; refine wp_cond (t := false) (XE8.at 22 rfl) ?_; refine wp_skip ?_; (repeat (first | (with_reducible refine inBlock_normal ?_) | (with_reducible refine then_normal ?_))); show Code.wp _ _ _ _ _; refine region_st [[], [0]] [11, 25] [] (tyvC [(11, (iE (↑(k + 1)))), (25, (iE (↑(k + 1))))]) XE8 XG8 XL8 (fun Q => ⟨sBin 25 (z := Value.int .i64 (↑k)) (z' := Value.int IntKind.i64 1) (u := Value.int .i64 (↑(k + 1))) (rP 11 1) (rK (Value.int IntKind.i64 1)) (fun h h' => ⟨rfl, rfl⟩) (eqg_int _ _ _ _ _ _ _ _) (run_as (run_add' _ _ _) (by rw [IntWalk.i64_in _ (by omega)]; rfl)), sMv 11 (rS 25 0), trivial⟩) ?_; intro bX fX w9 c9 a9 XG9 yx yA yB yV yO yF; have XE9 := XE8.up yF yO (ck (kv (yV 11 rfl) rfl) kn); have XL9 := (yA.pk yB rfl [0, 1, 2, 3]); have XN9 := XN8.trans yx rfl; clear yx yA yB yV yO yF; (repeat (first | (with_reducible refine inBlock_normal ?_) | (with_reducible refine then_normal ?_))); exact ⟨2 - (k + 1), by omega, ⟨c9, k + 1, rg (z * Ls.getD k 0), (Ev.sub XE9 _ ⟨rfl, rfl, rfl, rfl, rfl, rfl, trivial⟩), XG9, XN9, ⟨(All.box XL9 1 rfl), (All.box XL9 2 rfl), (All.val XL9 3 rfl), trivial⟩, by omega, PFn hLs hz hl hf, rfl⟩⟩
   · have hx := PFx hLs hz hl fx hf
     rw [hx.1, hx.2]; refine region_st [[], [0]] [21, 22] [] (tyvC [(21, (iE (rgE (z * (Ls.getD k 0))))), (22, (bE true))]) XE7 XG7 XL7 (fun Q => ⟨sMv 21 (rO 7), sBin 22 (z := Value.int .i64 (rgE (z * (Ls.getD k 0)))) (z' := Value.int IntKind.i64 0) (u := Value.bool true) (rS 21 0) (rK (Value.int IntKind.i64 0)) (fun h h' => ⟨h, rfl⟩) (eqg_int _ _ _ _ _ _ _ _) (run_as (run_neq _ _ _ _) (by rw [(rg_out hf).2]; rfl)), trivial⟩) ?_; intro bX fX w10 c10 a10 XG10 yx yA yB yV yO yF; have XE10 := XE7.up yF yO (ck (kv (yV 22 rfl) rfl) kn); have XL10 := (yA.pk yB rfl [0, 1, 2, 3]); have XN10 := XN7.trans yx rfl; clear yx yA yB yV yO yF; show Code.wp _ _ _ _ _; refine wp_cond (t := true) (XE10.at 22 rfl) ?_; refine wp_seq ?_; refine region_st [[], [], [0], [1]] [3, 23, 24] [21] (tyvC [(3, (iE (rgE (z * (Ls.getD k 0))))), (23, (wfC (0))), (24, (iE (rgE (z * (Ls.getD k 0)))))]) XE10 XG10 (All.stg 2 2 (Fact.box g2_1 35 21 (wfC (0))) XL10) (fun Q => ⟨sB0 23  (fun K => b_wf0), sMv 24 (rO 7), sSto 21 (rO 2) (rS 23 0) aggInt (wf_str _) (fun K => BoxC.old (K.fac.sb0 2 rfl K.self) (wf_str _)) (fun K h0 => h0), sMv 3 (rS 24 1), trivial⟩) ?_; intro bX fX w11 c11 a11 XG11 yx yA yB yV yO yF; have XE11 := XE10.up yF yO (ck (kv (yV 3 rfl) rfl) kn); have XL11 := (yA.pk yB rfl [0, 1, 2, 3]); have XN11 := XN10.trans yx rfl; clear yx yA yB yV yO yF; show Code.wp _ _ _ _ _; refine wp_ret ?_; (repeat (first | (with_reducible refine then_ret ?_) | (with_reducible refine inBlock_ret ?_) | (with_reducible refine then_normal ?_) | (with_reducible refine inBlock_normal ?_))); show bodyPost Tryz.prog Tryz.f104 _ Exit.ret a11 w11; obtain ⟨r0, hr0, hs0⟩ := BoxC.load (All.box XL11 2 rfl) aggInt (wf_str _); subst hc0; exact bodyPost_ret (res_ct rfl _ (XE11.at 2 rfl) hr0 (XE11.at 3 rfl)) XE11.2.1 ⟨_, rfl, ⟨_, rfl, hs0⟩, XN11.new0⟩
 · have hx := PF2 hz hk hl
   rw [hx.1, hx.2]; refine region_st [[]] [12] [] (tyvC [(12, (bE false))]) XEr1 XGr1 XLr1 (fun Q => ⟨sBin 12 (z := Value.int .i64 (↑k)) (z' := Value.int .i64 2) (u := Value.bool false) (rO 11) (rO 10) (fun h h' => ⟨rfl, rfl⟩) (eqg_int _ _ _ _ _ _ _ _) (run_as (run_lss _ _ _ _) (by simp; omega)), trivial⟩) ?_; intro bX fX w12 c12 a12 XG12 yx yA yB yV yO yF; have XE12 := XEr1.up yF yO (ck (kv (yV 12 rfl) rfl) kn); have XL12 := (yA.pk yB rfl [0, 1, 2]); have XN12 := XNr1.trans yx rfl; clear yx yA yB yV yO yF; show Code.wp _ _ _ _ _; refine wp_seq ?_; refine wp_cond (t := false) (XE12.at 12 rfl) ?_; refine wp_exit ?_; (repeat (with_reducible refine then_exit ?_)); refine inBlock_exit ?_; show Code.wp _ _ _ _ _; refine wp_seq ?_; refine region_st [[], [0], []] [3, 26] [21] (tyvC [(3, (iE 0)), (26, (wfC (z)))]) XE12 XG12 (All.stg 1 1 (Fact.box g2_1 35 21 (wfC (z))) XL12) (fun Q => ⟨sLb 26 (rO 4) 0 aggInt (wf_str _), sSto 21 (rO 2) (rS 26 0) aggInt (wf_str _) (fun K => BoxC.old (K.fac.sb0 1 rfl K.self) (wf_str _)) (fun K h0 => h0), sMv 3 (rK (Value.int IntKind.i64 0)), trivial⟩) ?_; intro bX fX w13 c13 a13 XG13 yx yA yB yV yO yF; have XE13 := XE12.up yF yO (ck (kv (yV 3 rfl) rfl) kn); have XL13 := (yA.pk yB rfl [1, 2]); have XN13 := XN12.trans yx rfl; clear yx yA yB yV yO yF; show Code.wp _ _ _ _ _; refine wp_ret ?_; (repeat (first | (with_reducible refine then_ret ?_) | (with_reducible refine inBlock_ret ?_) | (with_reducible refine then_normal ?_) | (with_reducible refine inBlock_normal ?_))); show bodyPost Tryz.prog Tryz.f104 _ Exit.ret a13 w13; obtain ⟨r0, hr0, hs0⟩ := BoxC.load (All.box XL13 0 rfl) aggInt (wf_str _); subst hc0; exact bodyPost_ret (res_ct rfl _ (XE13.at 2 rfl) hr0 (XE13.at 3 rfl)) XE13.2.1 ⟨_, rfl, ⟨_, rfl, hs0⟩, XN13.new0⟩

section
variable {w : World} {c : Colr} {v : Value} {x y : Int}
theorem k_prod (h : (litC 2 35 [wfC x, wfC y]).sat v w c) : CV Tryz.prog 104 #[v] w c ((wfC (rg (x * y))).tup1 (.int .i64 (rgE (x * y)))) := by
  have h2 := lit_seq h
  obtain ⟨g, cs, rfl, hc, hb, hs, h5⟩ := h
  obtain ⟨u, p1, p2, p3⟩ := h5 0 _ rfl
  refine (t_product w g x y [x, y] rfl p2.2 ?_).cv (plain_tup1 (pl_wf _))
  obtain ⟨A, cp, q1, q2, q3⟩ := h2
  refine ⟨A, cp, q1, q2, fun k τ hk => ?_⟩
  obtain ⟨ad, r1, ad', cs', r2, r3, r4, r5, r6⟩ := q3 k τ hk
  have hk' : τ = wfC x ∨ τ = wfC y := by
    match k, hk with
    | 0, hk => injection hk with hk; exact .inl hk.symm
    | 1, hk => injection hk with hk; exact .inr hk.symm
    | k + 2, hk => simp at hk
  refine ⟨ad, r1, ad', cs', r2, fun _ => rfl, r4, ?_, r6⟩
  rcases hk' with rfl | rfl <;> exact r5
theorem k_prodok (h : (litC 2 35 [wfC x, wfC y]).sat v w c) (hz : fit (x * y)) : CV Tryz.prog 104 #[v] w c ((wfC (x * y)).tup1 (.int .i64 0)) := by
  have := k_prod h
  rwa [(rg_in hz).1, (rg_in hz).2] at this
theorem k_prodno (h : (litC 2 35 [wfC x, wfC y]).sat v w c) (hz : ¬ fit (x * y)) : CV Tryz.prog 104 #[v] w c ((wfC 0).tup1 (.int .i64 4)) := by
  have := k_prod h
  rwa [(rg_out hz).1, (rg_out hz).2] at this
end
end Go.Proofs.YtbocpkjajocpiaaGreatDoor

namespace Go.Proofs.YtbocpkjajocpiaaGreatDoor
set_option linter.unusedVariables false
open Go.RowKit Go.Mem Go.Dig Go.Fr Go.Col

theorem lit_35_2 {w : World} {c : Colr} {u0 u1 : Value} {τ0 τ1 : TyC} (e0 : ∃ s A n c, u0 = .agg #[.bool s, .slice A n c]) (e1 : ∃ s A n c, u1 = .agg #[.bool s, .slice A n c]) (h0 : τ0.sat u0 w c) (h1 : τ1.sat u1 w c) : ∃ cs, (Instr.buildSlice 184 2 #[(0, u0), (1, u1)]).run Tryz.prog w = .ok (.slice (some ⟨w.heap.size, 0, none⟩) 2 2) (w.alloc (.cells cs 35)) ∧ cs.size = [τ0, τ1].length * 2 ∧ (catK 2 [τ0, τ1]).sat cs w c := by
  obtain ⟨s0, A0, n0, c0, rfl⟩ := e0
  obtain ⟨s1, A1, n1, c1, rfl⟩ := e1
  refine ⟨#[.bool s0, .slice A0 n0 c0, .bool s1, .slice A1 n1 c1], by kernel_rfl, rfl, fun k τ hk => ?_⟩
  match k, hk with
  | 0, hk =>
    injection hk with hk; subst hk
    refine ⟨#[.bool s0, .slice A0 n0 c0], rfl, h0, fun j x hx => ?_⟩
    match j, hx with
    | 0, hx => exact hx
    | 1, hx => exact hx
    | j + 2, hx => simp at hx
  | 1, hk =>
    injection hk with hk; subst hk
    refine ⟨#[.bool s1, .slice A1 n1 c1], rfl, h1, fun j x hx => ?_⟩
    match j, hx with
    | 0, hx => exact hx
    | 1, hx => exact hx
    | j + 2, hx => simp at hx
  | k + 2, hk => simp at hk
set_option maxRecDepth 100000 in
set_option maxHeartbeats 4000000 in
theorem t_fadd (w : World) (v v' : Value) (x y : Rat) (h : (ffC x).sat v w (fun _ => 0)) (h' : (ffC y).sat v' w (fun _ => 0)) : CT0 Tryz.prog 40 #[v, v'] w (TyC.tup1 (ffC (addV x y)) (Value.int .i64 (addE x y))) := by
 have hg0 := dg_ne x y; refine enter_st Tryz.func40 rfl Tryz.ntmps40 [(0, v), (1, v')] rfl ⟨rfl, rfl, trivial⟩ (Nat.le_of_ble_eq_true rfl) ?_; intro a0 XE0; obtain ⟨c0, hc0⟩ : ∃ c0 : Colr, c0 = fun _ => 0 := ⟨_, rfl⟩; have XG0 : GI w c0 := hc0 ▸ GI.zero w; have XN0 : Ext [21, 22, 23, 24, 25, 26, 27, 28, 29, 30, 31, 32, 33, 34] w c0 w c0 := Ext.refl rfl XG0; have XL0 : All [.s (Fact.val (ffC (x)) v), .s (Fact.val (ffC (y)) (v'))] b0 f0 w c0 := ⟨(hc0 ▸ h), (hc0 ▸ h'), trivial⟩; refine wp_seq ?_; refine region_st [[], [], [], []] [2, 3, 4, 5] [21, 22, 23] (tyvC [(2, PT), (3, PT), (4, PT), (5, (iE 0))]) XE0 XG0 (All.cn 2 21 52 0 #[] (ffC (x)) (All.cn 3 22 52 1 #[] (ffC (y)) (All.cn 4 23 52 2 #[] (ffC (0)) XL0))) (fun Q => ⟨sBox 2 21 (rO 0) (fun K h0 => bxs (ff_str _) (K.fac.val 3 rfl)), sBox 3 22 (rO 1) (fun K h0 => bxs (ff_str _) (K.fac.val 4 rfl)), sAlz 4 23 (zeroF _) (ff_zero), sMv 5 (rK (Value.int IntKind.i64 0)), trivial⟩) ?_; intro bX fX w1 c1 a1 XG1 yx yA yB yV yO yF; obtain ⟨g2_1, e2⟩ := kp (yV 2 rfl) rfl; obtain ⟨g3_1, e3⟩ := kp (yV 3 rfl) rfl; obtain ⟨g4_1, e4⟩ := kp (yV 4 rfl) rfl; have XE1 := XE0.up yF yO (ck e2 (ck e3 (ck e4 (ck (kv (yV 5 rfl) rfl) kn)))); have XL1 := (All.cb (yA.nb 0 rfl e2 (yB 0 (by decide))) (All.cb (yA.nb 1 rfl e3 (yB 1 (by decide))) (All.cb (yA.nb 2 rfl e4 (yB 2 (by decide))) (yA.pk yB rfl [])))); have XN1 := XN0.trans yx rfl; clear yx yA yB yV yO yF; show Code.wp _ _ _ _ _; refine wp_seq ?_; refine region_st [[], [0], [], [2], [], [], [1, 4], [3, 5]] [6, 7, 14, 15, 16, 17] [24, 25] (tyvC [(6, PT), (7, PT), (14, (ffC (x))), (15, (wfC (dn x))), (16, (ffC (y))), (17, (wfC (dn y)))]) XE1 XG1 (All.cn 6 24 35 6 #[.bool false, .slice none 0 0] (wfC (dn x)) (All.cn 7 25 35 7 #[.bool false, .slice none 0 0] (wfC (dn y)) XL1)) (fun Q => ⟨sLb 14 (rO 2) 2 aggF (ff_str _), sC1 15 (rS 14 0) (fun K h0 => k_den h0) Tryz.func64, sLb 16 (rO 3) 3 aggF (ff_str _), sC1 17 (rS 16 2) (fun K h0 => k_den h0) Tryz.func64, sAl 6 24 (zeroI _), sAl 7 25 (zeroI _), sStn 6 24 4 0 (rS 15 1) aggInt (wf_str _), sStn 7 25 5 1 (rS 17 3) aggInt (wf_str _), trivial⟩) ?_; intro bX fX w2 c2 a2 XG2 yx yA yB yV yO yF; obtain ⟨g6_2, e6⟩ := kp (yV 6 rfl) rfl; obtain ⟨g7_2, e7⟩ := kp (yV 7 rfl) rfl; have XE2 := XE1.up yF yO (ck e6 (ck e7 kn)); have XL2 := (All.cb (yA.nb 0 rfl e6 (yB 6 (by decide))) (All.cb (yA.nb 1 rfl e7 (yB 7 (by decide))) (yA.pk yB rfl [2, 3, 4]))); have XN2 := XN1.trans yx rfl; clear yx yA yB yV yO yF; show Code.wp _ _ _ _ _; refine wp_seq ?_; refine region_st [[], [], [0, 1], [], [2, 3]] [8, 18, 19, 20] [26] (tyvC [(8, PT), (18, (wfC (dn x))), (19, (wfC (dn y))), (20, (wfC (dg x y)))]) XE2 XG2 (All.cn 8 26 35 4 #[.bool false, .slice none 0 0] (wfC (dg x y)) XL2) (fun Q => ⟨sLb 18 (rO 6) 1 aggInt (wf_str _), sLb 19 (rO 7) 2 aggInt (wf_str _), sC2 20 (rS 18 0) (rS 19 1) (fun K h0 h1 => k_wgcd h0 h1 (by have := dn_pos y; omega)) Tryz.func100, sAl 8 26 (zeroI _), sStn 8 26 3 0 (rS 20 2) aggInt (wf_str _), trivial⟩) ?_; intro bX fX w3 c3 a3 XG3 yx yA yB yV yO yF; obtain ⟨g8_3, e8⟩ := kp (yV 8 rfl) rfl
 have XE3 := XE2.up yF yO (ck e8 kn); have XL3 := (All.cb (yA.nb 0 rfl e8 (yB 4 (by decide))) (yA.pk yB rfl [1, 2, 3, 4, 5])); have XN3 := XN2.trans yx rfl; clear yx yA yB yV yO yF; show Code.wp _ _ _ _ _; refine wp_seq ?_; by_cases hL : fit (LL x y)
 · skip
   refine region_st [[], [0], [], [], [2, 3], [1, 4], [5], [6], [7], [7], [], [8, 10], [9]] [9, 10, 21, 22, 23, 24, 25, 26, 27, 28, 29, 30] [27] (tyvC [(9, PT), (10, (iE 0)), (21, (TyC.tup1 (wfC (LL x y)) (Value.int .i64 0))), (22, (pE g2_1 0)), (23, (wfC ((x).num))), (24, (wfC (dn y))), (25, (wfC (dg x y))), (26, (wfC ((dn y) / (dg x y)))), (27, (litC 2 35 [(wfC ((x).num)), (wfC ((dn y) / (dg x y)))])), (28, (TyC.tup1 (wfC (LL x y)) (Value.int .i64 0))), (29, (wfC (LL x y))), (30, (iE 0))]) XE3 XG3 (All.cn 9 27 35 11 #[.bool false, .slice none 0 0] (wfC (LL x y)) XL3) (fun Q => ⟨sFa 22 (rO 2) (fld_f0 _), sLf 23 (rS 22 0) (fun K => lf_num (K.fac.box 4 rfl)), sLb 24 (rO 7) 3 aggInt (wf_str _), sLb 25 (rO 8) 1 aggInt (wf_str _), sC2 26 (rS 24 2) (rS 25 3) (fun K h0 h1 => k_over h0 h1 hg0) Tryz.func101, sL2 27 (L := [(wfC ((x).num)), (wfC ((dn y) / (dg x y)))]) (rS 23 1) (rS 26 4) (fun K h0 h1 => lit_35_2 (wi_cells (h0).1) (wi_cells (h1).1) h0 h1), sC1 28 (rS 27 5) (fun K h0 => k_prodok h0 hL) Tryz.func104, sMv 21 (rS 28 6), sEx 29 (rS 21 7) ex10, sEx 30 (rS 21 7) ex11, sAl 9 27 (zeroI _), sStn 9 27 10 0 (rS 29 8) aggInt (wf_str _), sMv 10 (rS 30 9), trivial⟩) ?_; intro bX fX w4 c4 a4 XG4 yx yA yB yV yO yF; obtain ⟨g9_4, e9⟩ := kp (yV 9 rfl) rfl; have XE4 := XE3.up yF yO (ck e9 (ck (kv (yV 10 rfl) rfl) kn)); have XL4 := (All.cb (yA.nb 0 rfl e9 (yB 11 (by decide))) (yA.pk yB rfl [1, 2, 3, 5, 6])); have XN4 := XN3.trans yx rfl; clear yx yA yB yV yO yF; show Code.wp _ _ _ _ _; refine wp_seq ?_; refine wp_seq ?_; refine region_st [[], [0]] [31, 32] [] (tyvC [(31, (iE 0)), (32, (bE false))]) XE4 XG4 XL4 (fun Q => ⟨sMv 31 (rO 10), sBin 32 (rS 31 0) (rK (Value.int IntKind.i64 0)) (fun h h' => ⟨h, rfl⟩) (eqg_int _ _ _ _ _ _ _ _) (run_as (run_neq _ _ _ _) rfl), trivial⟩) ?_; intro bX fX w5 c5 a5 XG5 yx yA yB yV yO yF; have XE5 := XE4.up yF yO (ck (kv (yV 32 rfl) rfl) kn); have XL5 := (yA.pk yB rfl [0, 1, 2, 3, 4, 5]); have XN5 := XN4.trans yx rfl; clear yx yA yB yV yO yF; show Code.wp _ _ _ _ _; refine wp_cond (t := false) (XE5.at 32 rfl) ?_; refine wp_skip ?_; show Code.wp _ _ _ _ _; refine wp_seq ?_; by_cases hR : fit (RR x y)
   · skip
     refine region_st [[], [0], [], [], [2, 3], [1, 4], [5], [6], [7], [7], [], [8, 10], [9]] [10, 11, 35, 36, 37, 38, 39, 40, 41, 42, 43, 44] [28] (tyvC [(10, (iE 0)), (11, PT), (35, (TyC.tup1 (wfC (RR x y)) (Value.int .i64 0))), (36, (pE g3_1 0)), (37, (wfC ((y).num))), (38, (wfC (dn x))), (39, (wfC (dg x y))), (40, (wfC ((dn x) / (dg x y)))), (41, (litC 2 35 [(wfC ((y).num)), (wfC ((dn x) / (dg x y)))])), (42, (TyC.tup1 (wfC (RR x y)) (Value.int .i64 0))), (43, (wfC (RR x y))), (44, (iE 0))]) XE5 XG5 (All.cn 11 28 35 11 #[.bool false, .slice none 0 0] (wfC (RR x y)) XL5) (fun Q => ⟨sFa 36 (rO 3) (fld_f0 _), sLf 37 (rS 36 0) (fun K => lf_num (K.fac.box 5 rfl)), sLb 38 (rO 6) 3 aggInt (wf_str _), sLb 39 (rO 8) 2 aggInt (wf_str _), sC2 40 (rS 38 2) (rS 39 3) (fun K h0 h1 => k_over h0 h1 hg0) Tryz.func101, sL2 41 (L := [(wfC ((y).num)), (wfC ((dn x) / (dg x y)))]) (rS 37 1) (rS 40 4) (fun K h0 h1 => lit_35_2 (wi_cells (h0).1) (wi_cells (h1).1) h0 h1), sC1 42 (rS 41 5) (fun K h0 => k_prodok h0 hR) Tryz.func104, sMv 35 (rS 42 6), sEx 43 (rS 35 7) ex10, sEx 44 (rS 35 7) ex11, sAl 11 28 (zeroI _), sStn 11 28 10 0 (rS 43 8) aggInt (wf_str _), sMv 10 (rS 44 9), trivial⟩) ?_; intro bX fX w6 c6 a6 XG6 yx yA yB yV yO yF; obtain ⟨g11_6, e11⟩ := kp (yV 11 rfl) rfl; have XE6 := XE5.up yF yO (ck (kv (yV 10 rfl) rfl) (ck e11 kn)); have XL6 := (All.cb (yA.nb 0 rfl e11 (yB 11 (by decide))) (yA.pk yB rfl [1, 2, 3, 4, 6])); have XN6 := XN5.trans yx rfl; clear yx yA yB yV yO yF; show Code.wp _ _ _ _ _; refine wp_seq ?_; refine wp_seq ?_; refine region_st [[], [0]] [45, 46] [] (tyvC [(45, (iE 0)), (46, (bE false))]) XE6 XG6 XL6 (fun Q => ⟨sMv 45 (rO 10), sBin 46 (rS 45 0) (rK (Value.int IntKind.i64 0)) (fun h h' => ⟨h, rfl⟩) (eqg_int _ _ _ _ _ _ _ _) (run_as (run_neq _ _ _ _) rfl), trivial⟩) ?_; intro bX fX w7 c7 a7 XG7 yx yA yB yV yO yF; have XE7 := XE6.up yF yO (ck (kv (yV 46 rfl) rfl) kn); have XL7 := (yA.pk yB rfl [0, 1, 2, 3, 4, 5]); have XN7 := XN6.trans yx rfl; clear yx yA yB yV yO yF; show Code.wp _ _ _ _ _; refine wp_cond (t := false) (XE7.at 46 rfl) ?_; refine wp_skip ?_; show Code.wp _ _ _ _ _; refine wp_seq ?_; by_cases hS : fit (LL x y + RR x y)
     · skip
       refine region_st [[], [], [0, 1], [2], [3], [3], [], [4, 6], [5]] [10, 12, 49, 50, 51, 52, 53, 54] [29] (tyvC [(10, (iE 0)), (12, PT), (49, (TyC.tup1 (wfC (LL x y + RR x y)) (Value.int .i64 0))), (50, (wfC (LL x y))), (51, (wfC (RR x y))), (52, (TyC.tup1 (wfC (LL x y + RR x y)) (Value.int .i64 0))), (53, (wfC (LL x y + RR x y))), (54, (iE 0))]) XE7 XG7 (All.cn 12 29 35 7 #[.bool false, .slice none 0 0] (wfC (LL x y + RR x y)) XL7) (fun Q => ⟨sLb 50 (rO 9) 2 aggInt (wf_str _), sLb 51 (rO 11) 1 aggInt (wf_str _), sC2 52 (rS 50 0) (rS 51 1) (fun K h0 h1 => k_waddok h0 h1 hS) Tryz.func62, sMv 49 (rS 52 2), sEx 53 (rS 49 3) ex10, sEx 54 (rS 49 3) ex11, sAl 12 29 (zeroI _), sStn 12 29 6 0 (rS 53 4) aggInt (wf_str _), sMv 10 (rS 54 5), trivial⟩) ?_; intro bX fX w8 c8 a8 XG8 yx yA yB yV yO yF; obtain ⟨g12_8, e12⟩ := kp (yV 12 rfl) rfl; have XE8 := XE7.up yF yO (ck (kv (yV 10 rfl) rfl) (ck e12 kn)); have XL8 := (All.cb (yA.nb 0 rfl e12 (yB 7 (by decide))) (yA.pk yB rfl [3, 4, 5, 6])); have XN8 := XN7.trans yx rfl; clear yx yA yB yV yO yF; show Code.wp _ _ _ _ _; refine wp_seq ?_; refine wp_seq ?_; refine region_st [[], [0]] [55, 56] [] (tyvC [(55, (iE 0)), (56, (bE false))]) XE8 XG8 XL8 (fun Q => ⟨sMv 55 (rO 10), sBin 56 (rS 55 0) (rK (Value.int IntKind.i64 0)) (fun h h' => ⟨h, rfl⟩) (eqg_int _ _ _ _ _ _ _ _) (run_as (run_neq _ _ _ _) rfl), trivial⟩) ?_; intro bX fX w9 c9 a9 XG9 yx yA yB yV yO yF; have XE9 := XE8.up yF yO (ck (kv (yV 56 rfl) rfl) kn); have XL9 := (yA.pk yB rfl [0, 1, 2, 3, 4]); have XN9 := XN8.trans yx rfl; clear yx yA yB yV yO yF; show Code.wp _ _ _ _ _; refine wp_cond (t := false) (XE9.at 56 rfl) ?_; refine wp_skip ?_; show Code.wp _ _ _ _ _; refine wp_seq ?_; by_cases hD : fit (DD x y)
       · skip
         refine region_st [[], [], [0, 1], [], [2, 3], [4], [5], [6], [6], [], [7, 9], [8]] [10, 13, 59, 60, 61, 62, 63, 64, 65, 66, 67] [30] (tyvC [(10, (iE 0)), (13, PT), (59, (TyC.tup1 (wfC (DD x y)) (Value.int .i64 0))), (60, (wfC (dn x))), (61, (wfC (dg x y))), (62, (wfC ((dn x) / (dg x y)))), (63, (wfC (dn y))), (64, (litC 2 35 [(wfC ((dn x) / (dg x y))), (wfC (dn y))])), (65, (TyC.tup1 (wfC (DD x y)) (Value.int .i64 0))), (66, (wfC (DD x y))), (67, (iE 0))]) XE9 XG9 (All.cn 13 30 35 10 #[.bool false, .slice none 0 0] (wfC (DD x y)) XL9) (fun Q => ⟨sLb 60 (rO 6) 3 aggInt (wf_str _), sLb 61 (rO 8) 2 aggInt (wf_str _), sC2 62 (rS 60 0) (rS 61 1) (fun K h0 h1 => k_over h0 h1 hg0) Tryz.func101, sLb 63 (rO 7) 4 aggInt (wf_str _), sL2 64 (L := [(wfC ((dn x) / (dg x y))), (wfC (dn y))]) (rS 62 2) (rS 63 3) (fun K h0 h1 => lit_35_2 (wi_cells (h0).1) (wi_cells (h1).1) h0 h1), sC1 65 (rS 64 4) (fun K h0 => k_prodok h0 hD) Tryz.func104, sMv 59 (rS 65 5), sEx 66 (rS 59 6) ex10, sEx 67 (rS 59 6) ex11, sAl 13 30 (zeroI _), sStn 13 30 9 0 (rS 66 7) aggInt (wf_str _), sMv 10 (rS 67 8), trivial⟩) ?_; intro bX fX w10 c10 a10 XG10 yx yA yB yV yO yF; obtain ⟨g13_10, e13⟩ := kp (yV 13 rfl) rfl; have XE10 := XE9.up yF yO (ck (kv (yV 10 rfl) rfl) (ck e13 kn)); have XL10 := (All.cb (yA.nb 0 rfl e13 (yB 10 (by decide))) (yA.pk yB rfl [1, 5])); have XN10 := XN9.trans yx rfl; clear yx yA yB yV yO yF; show Code.wp _ _ _ _ _; refine wp_seq ?_; refine wp_seq ?_; refine region_st [[], [0]] [68, 69] [] (tyvC [(68, (iE 0)), (69, (bE false))]) XE10 XG10 XL10 (fun Q => ⟨sMv 68 (rO 10), sBin 69 (rS 68 0) (rK (Value.int IntKind.i64 0)) (fun h h' => ⟨h, rfl⟩) (eqg_int _ _ _ _ _ _ _ _) (run_as (run_neq _ _ _ _) rfl), trivial⟩) ?_; intro bX fX w11 c11 a11 XG11 yx yA yB yV yO yF; have XE11 := XE10.up yF yO (ck (kv (yV 69 rfl) rfl) kn); have XL11 := (yA.pk yB rfl [0, 1, 2]); have XN11 := XN10.trans yx rfl; clear yx yA yB yV yO yF; show Code.wp _ _ _ _ _; refine wp_cond (t := false) (XE11.at 69 rfl) ?_; refine wp_skip ?_; show Code.wp _ _ _ _ _; refine wp_seq ?_; have ho : addOk x y := ⟨hL, hR, hS, hD⟩; have hD0 : DD x y ≠ 0 := by have := DD_pos x y; omega
         have hv : addV x y = mkV (LL x y + RR x y) (DD x y) := by unfold addV mkV; rw [if_pos ho, if_neg hD0, add_mk]
         have he : addE x y = mkE (DD x y) := by unfold addE mkE; rw [if_pos ho, if_neg hD0]
         rw [hv, he]; refine region_st [[], [], [0, 1], [2], [2], [3], [4]] [5, 72, 73, 74, 75, 76] [23] (tyvC [(5, (iE (mkE (DD x y)))), (72, (wfC (LL x y + RR x y))), (73, (wfC (DD x y))), (74, (TyC.tup1 (ffC (mkV (LL x y + RR x y) (DD x y))) (Value.int .i64 (mkE (DD x y))))), (75, (ffC (mkV (LL x y + RR x y) (DD x y)))), (76, (iE (mkE (DD x y))))]) XE11 XG11 (All.stg 2 5 (Fact.box g4_1 52 23 (ffC (mkV (LL x y + RR x y) (DD x y)))) XL11) (fun Q => ⟨sLb 72 (rO 12) 1 aggInt (wf_str _), sLb 73 (rO 13) 0 aggInt (wf_str _), sC2 74 (rS 72 0) (rS 73 1) (fun K h0 h1 => k_make h0 h1) Tryz.func29, sEx 75 (rS 74 2) ex10, sEx 76 (rS 74 2) ex11, sSto 23 (rO 4) (rS 75 3) aggF (ff_str _) (fun K => BoxC.old (K.fac.sb0 2 rfl K.self) (ff_str _)) (fun K h0 => h0), sMv 5 (rS 76 4), trivial⟩) ?_; intro bX fX w12 c12 a12 XG12 yx yA yB yV yO yF; have XE12 := XE11.up yF yO (ck (kv (yV 5 rfl) rfl) kn); have XL12 := (yA.pk yB rfl [2]); have XN12 := XN11.trans yx rfl; clear yx yA yB yV yO yF; show Code.wp _ _ _ _ _; refine wp_ret ?_; (repeat (first | (with_reducible refine then_ret ?_) | (with_reducible refine inBlock_ret ?_) | (with_reducible refine then_normal ?_) | (with_reducible refine inBlock_normal ?_))); show bodyPost Tryz.prog Tryz.f40 _ Exit.ret a12 w12; obtain ⟨r0, hr0, hs0⟩ := BoxC.load (All.box XL12 0 rfl) aggF (ff_str _); subst hc0; exact bodyPost_ret (res_ct rfl _ (XE12.at 4 rfl) hr0 (XE12.at 5 rfl)) XE12.2.1 ⟨_, rfl, ⟨_, rfl, hs0⟩, XN12.new0⟩
       · have ho : ¬ addOk x y := fun h => hD h.2.2.2
         have hv : addV x y = 0 := if_neg ho; have he : addE x y = 4 := if_neg ho; rw [hv, he]; refine region_st [[], [], [0, 1], [], [2, 3], [4], [5], [6], [6], [], [7, 9], [8]] [10, 13, 59, 60, 61, 62, 63, 64, 65, 66, 67] [31] (tyvC [(10, (iE 4)), (13, PT), (59, (TyC.tup1 (wfC (0)) (Value.int .i64 4))), (60, (wfC (dn x))), (61, (wfC (dg x y))), (62, (wfC ((dn x) / (dg x y)))), (63, (wfC (dn y))), (64, (litC 2 35 [(wfC ((dn x) / (dg x y))), (wfC (dn y))])), (65, (TyC.tup1 (wfC (0)) (Value.int .i64 4))), (66, (wfC (0))), (67, (iE 4))]) XE9 XG9 (All.cn 13 31 35 10 #[.bool false, .slice none 0 0] (wfC (0)) XL9) (fun Q => ⟨sLb 60 (rO 6) 3 aggInt (wf_str _), sLb 61 (rO 8) 2 aggInt (wf_str _), sC2 62 (rS 60 0) (rS 61 1) (fun K h0 h1 => k_over h0 h1 hg0) Tryz.func101, sLb 63 (rO 7) 4 aggInt (wf_str _), sL2 64 (L := [(wfC ((dn x) / (dg x y))), (wfC (dn y))]) (rS 62 2) (rS 63 3) (fun K h0 h1 => lit_35_2 (wi_cells (h0).1) (wi_cells (h1).1) h0 h1), sC1 65 (rS 64 4) (fun K h0 => k_prodno h0 hD) Tryz.func104, sMv 59 (rS 65 5), sEx 66 (rS 59 6) ex10, sEx 67 (rS 59 6) ex11, sAl 13 31 (zeroI _), sStn 13 31 9 0 (rS 66 7) aggInt (wf_str _), sMv 10 (rS 67 8), trivial⟩) ?_; intro bX fX w13 c13 a13 XG13 yx yA yB yV yO yF; obtain ⟨g13_13, e13⟩ := kp (yV 13 rfl) rfl; have XE13 := XE9.up yF yO (ck (kv (yV 10 rfl) rfl) (ck e13 kn)); have XL13 := (All.cb (yA.nb 0 rfl e13 (yB 10 (by decide))) (yA.pk yB rfl [1, 5])); have XN13 := XN9.trans yx rfl; clear yx yA yB yV yO yF; show Code.wp _ _ _ _ _; refine wp_seq ?_; refine wp_seq ?_; refine region_st [[], [0]] [68, 69] [] (tyvC [(68, (iE 4)), (69, (bE true))]) XE13 XG13 XL13 (fun Q => ⟨sMv 68 (rO 10), sBin 69 (rS 68 0) (rK (Value.int IntKind.i64 0)) (fun h h' => ⟨h, rfl⟩) (eqg_int _ _ _ _ _ _ _ _) (run_as (run_neq _ _ _ _) rfl), trivial⟩) ?_; intro bX fX w14 c14 a14 XG14 yx yA yB yV yO yF; have XE14 := XE13.up yF yO (ck (kv (yV 69 rfl) rfl) kn); have XL14 := (yA.pk yB rfl [0, 1, 2]); have XN14 := XN13.trans yx rfl; clear yx yA yB yV yO yF; show Code.wp _ _ _ _ _; refine wp_cond (t := true) (XE14.at 69 rfl) ?_; refine wp_seq ?_; refine region_st [[], [], [0], [1]] [5, 70, 71] [23] (tyvC [(5, (iE 4)), (70, (ffC (0))), (71, (iE 4))]) XE14 XG14 (All.stg 2 2 (Fact.box g4_1 52 23 (ffC (0))) XL14) (fun Q => ⟨sB0 70  (fun K => b_ff0), sMv 71 (rO 10), sSto 23 (rO 4) (rS 70 0) aggF (ff_str _) (fun K => BoxC.old (K.fac.sb0 2 rfl K.self) (ff_str _)) (fun K h0 => h0), sMv 5 (rS 71 1), trivial⟩) ?_; intro bX fX w15 c15 a15 XG15 yx yA yB yV yO yF; have XE15 := XE14.up yF yO (ck (kv (yV 5 rfl) rfl) kn); have XL15 := (yA.pk yB rfl [0, 1, 2]); have XN15 := XN14.trans yx rfl; clear yx yA yB yV yO yF; show Code.wp _ _ _ _ _; refine wp_ret ?_; (repeat (first | (with_reducible refine then_ret ?_) | (with_reducible refine inBlock_ret ?_) | (with_reducible refine then_normal ?_) | (with_reducible refine inBlock_normal ?_))); show bodyPost Tryz.prog Tryz.f40 _ Exit.ret a15 w15; obtain ⟨r0, hr0, hs0⟩ := BoxC.load (All.box XL15 2 rfl) aggF (ff_str _)
         subst hc0; exact bodyPost_ret (res_ct rfl _ (XE15.at 4 rfl) hr0 (XE15.at 5 rfl)) XE15.2.1 ⟨_, rfl, ⟨_, rfl, hs0⟩, XN15.new0⟩
     · have ho : ¬ addOk x y := fun h => hS h.2.2.1
       have hv : addV x y = 0 := if_neg ho; have he : addE x y = 4 := if_neg ho; rw [hv, he]; refine region_st [[], [], [0, 1], [2], [3], [3], [], [4, 6], [5]] [10, 12, 49, 50, 51, 52, 53, 54] [32] (tyvC [(10, (iE 4)), (12, PT), (49, (TyC.tup1 (wfC (0)) (Value.int .i64 4))), (50, (wfC (LL x y))), (51, (wfC (RR x y))), (52, (TyC.tup1 (wfC (0)) (Value.int .i64 4))), (53, (wfC (0))), (54, (iE 4))]) XE7 XG7 (All.cn 12 32 35 7 #[.bool false, .slice none 0 0] (wfC (0)) XL7) (fun Q => ⟨sLb 50 (rO 9) 2 aggInt (wf_str _), sLb 51 (rO 11) 1 aggInt (wf_str _), sC2 52 (rS 50 0) (rS 51 1) (fun K h0 h1 => k_waddno h0 h1 hS) Tryz.func62, sMv 49 (rS 52 2), sEx 53 (rS 49 3) ex10, sEx 54 (rS 49 3) ex11, sAl 12 32 (zeroI _), sStn 12 32 6 0 (rS 53 4) aggInt (wf_str _), sMv 10 (rS 54 5), trivial⟩) ?_; intro bX fX w16 c16 a16 XG16 yx yA yB yV yO yF; obtain ⟨g12_16, e12⟩ := kp (yV 12 rfl) rfl; have XE16 := XE7.up yF yO (ck (kv (yV 10 rfl) rfl) (ck e12 kn)); have XL16 := (All.cb (yA.nb 0 rfl e12 (yB 7 (by decide))) (yA.pk yB rfl [3, 4, 5, 6])); have XN16 := XN7.trans yx rfl; clear yx yA yB yV yO yF; show Code.wp _ _ _ _ _; refine wp_seq ?_; refine wp_seq ?_; refine region_st [[], [0]] [55, 56] [] (tyvC [(55, (iE 4)), (56, (bE true))]) XE16 XG16 XL16 (fun Q => ⟨sMv 55 (rO 10), sBin 56 (rS 55 0) (rK (Value.int IntKind.i64 0)) (fun h h' => ⟨h, rfl⟩) (eqg_int _ _ _ _ _ _ _ _) (run_as (run_neq _ _ _ _) rfl), trivial⟩) ?_; intro bX fX w17 c17 a17 XG17 yx yA yB yV yO yF; have XE17 := XE16.up yF yO (ck (kv (yV 56 rfl) rfl) kn); have XL17 := (yA.pk yB rfl [0, 1, 2, 3, 4]); have XN17 := XN16.trans yx rfl; clear yx yA yB yV yO yF; show Code.wp _ _ _ _ _; refine wp_cond (t := true) (XE17.at 56 rfl) ?_; refine wp_seq ?_; refine region_st [[], [], [0], [1]] [5, 57, 58] [23] (tyvC [(5, (iE 4)), (57, (ffC (0))), (58, (iE 4))]) XE17 XG17 (All.stg 4 2 (Fact.box g4_1 52 23 (ffC (0))) XL17) (fun Q => ⟨sB0 57  (fun K => b_ff0), sMv 58 (rO 10), sSto 23 (rO 4) (rS 57 0) aggF (ff_str _) (fun K => BoxC.old (K.fac.sb0 4 rfl K.self) (ff_str _)) (fun K h0 => h0), sMv 5 (rS 58 1), trivial⟩) ?_; intro bX fX w18 c18 a18 XG18 yx yA yB yV yO yF; have XE18 := XE17.up yF yO (ck (kv (yV 5 rfl) rfl) kn); have XL18 := (yA.pk yB rfl [0, 1, 2, 3, 4]); have XN18 := XN17.trans yx rfl; clear yx yA yB yV yO yF; show Code.wp _ _ _ _ _; refine wp_ret ?_; (repeat (first | (with_reducible refine then_ret ?_) | (with_reducible refine inBlock_ret ?_) | (with_reducible refine then_normal ?_) | (with_reducible refine inBlock_normal ?_))); show bodyPost Tryz.prog Tryz.f40 _ Exit.ret a18 w18; obtain ⟨r0, hr0, hs0⟩ := BoxC.load (All.box XL18 4 rfl) aggF (ff_str _); subst hc0; exact bodyPost_ret (res_ct rfl _ (XE18.at 4 rfl) hr0 (XE18.at 5 rfl)) XE18.2.1 ⟨_, rfl, ⟨_, rfl, hs0⟩, XN18.new0⟩
   · have ho : ¬ addOk x y := fun h => hR h.2.1
     have hv : addV x y = 0 := if_neg ho; have he : addE x y = 4 := if_neg ho; rw [hv, he]; refine region_st [[], [0], [], [], [2, 3], [1, 4], [5], [6], [7], [7], [], [8, 10], [9]] [10, 11, 35, 36, 37, 38, 39, 40, 41, 42, 43, 44] [33] (tyvC [(10, (iE 4)), (11, PT), (35, (TyC.tup1 (wfC (0)) (Value.int .i64 4))), (36, (pE g3_1 0)), (37, (wfC ((y).num))), (38, (wfC (dn x))), (39, (wfC (dg x y))), (40, (wfC ((dn x) / (dg x y)))), (41, (litC 2 35 [(wfC ((y).num)), (wfC ((dn x) / (dg x y)))])), (42, (TyC.tup1 (wfC (0)) (Value.int .i64 4))), (43, (wfC (0))), (44, (iE 4))]) XE5 XG5 (All.cn 11 33 35 11 #[.bool false, .slice none 0 0] (wfC (0)) XL5) (fun Q => ⟨sFa 36 (rO 3) (fld_f0 _), sLf 37 (rS 36 0) (fun K => lf_num (K.fac.box 5 rfl)), sLb 38 (rO 6) 3 aggInt (wf_str _), sLb 39 (rO 8) 2 aggInt (wf_str _), sC2 40 (rS 38 2) (rS 39 3) (fun K h0 h1 => k_over h0 h1 hg0) Tryz.func101, sL2 41 (L := [(wfC ((y).num)), (wfC ((dn x) / (dg x y)))]) (rS 37 1) (rS 40 4) (fun K h0 h1 => lit_35_2 (wi_cells (h0).1) (wi_cells (h1).1) h0 h1), sC1 42 (rS 41 5) (fun K h0 => k_prodno h0 hR) Tryz.func104, sMv 35 (rS 42 6), sEx 43 (rS 35 7) ex10, sEx 44 (rS 35 7) ex11, sAl 11 33 (zeroI _), sStn 11 33 10 0 (rS 43 8) aggInt (wf_str _), sMv 10 (rS 44 9), trivial⟩) ?_; intro bX fX w19 c19 a19 XG19 yx yA yB yV yO yF; obtain ⟨g11_19, e11⟩ := kp (yV 11 rfl) rfl; have XE19 := XE5.up yF yO (ck (kv (yV 10 rfl) rfl) (ck e11 kn)); have XL19 := (All.cb (yA.nb 0 rfl e11 (yB 11 (by decide))) (yA.pk yB rfl [1, 2, 3, 4, 6])); have XN19 := XN5.trans yx rfl; clear yx yA yB yV yO yF; show Code.wp _ _ _ _ _; refine wp_seq ?_; refine wp_seq ?_; refine region_st [[], [0]] [45, 46] [] (tyvC [(45, (iE 4)), (46, (bE true))]) XE19 XG19 XL19 (fun Q => ⟨sMv 45 (rO 10), sBin 46 (rS 45 0) (rK (Value.int IntKind.i64 0)) (fun h h' => ⟨h, rfl⟩) (eqg_int _ _ _ _ _ _ _ _) (run_as (run_neq _ _ _ _) rfl), trivial⟩) ?_; intro bX fX w20 c20 a20 XG20 yx yA yB yV yO yF; have XE20 := XE19.up yF yO (ck (kv (yV 46 rfl) rfl) kn); have XL20 := (yA.pk yB rfl [0, 1, 2, 3, 4, 5]); have XN20 := XN19.trans yx rfl; clear yx yA yB yV yO yF; show Code.wp _ _ _ _ _; refine wp_cond (t := true) (XE20.at 46 rfl) ?_; refine wp_seq ?_; refine region_st [[], [], [0], [1]] [5, 47, 48] [23] (tyvC [(5, (iE 4)), (47, (ffC (0))), (48, (iE 4))]) XE20 XG20 (All.stg 5 2 (Fact.box g4_1 52 23 (ffC (0))) XL20) (fun Q => ⟨sB0 47  (fun K => b_ff0), sMv 48 (rO 10), sSto 23 (rO 4) (rS 47 0) aggF (ff_str _) (fun K => BoxC.old (K.fac.sb0 5 rfl K.self) (ff_str _)) (fun K h0 => h0), sMv 5 (rS 48 1), trivial⟩) ?_; intro bX fX w21 c21 a21 XG21 yx yA yB yV yO yF; have XE21 := XE20.up yF yO (ck (kv (yV 5 rfl) rfl) kn); have XL21 := (yA.pk yB rfl [0, 1, 2, 3, 4, 5]); have XN21 := XN20.trans yx rfl; clear yx yA yB yV yO yF; show Code.wp _ _ _ _ _; refine wp_ret ?_; (repeat (first | (with_reducible refine then_ret ?_) | (with_reducible refine inBlock_ret ?_) | (with_reducible refine then_normal ?_) | (with_reducible refine inBlock_normal ?_))); show bodyPost Tryz.prog Tryz.f40 _ Exit.ret a21 w21
     obtain ⟨r0, hr0, hs0⟩ := BoxC.load (All.box XL21 5 rfl) aggF (ff_str _); subst hc0; exact bodyPost_ret (res_ct rfl _ (XE21.at 4 rfl) hr0 (XE21.at 5 rfl)) XE21.2.1 ⟨_, rfl, ⟨_, rfl, hs0⟩, XN21.new0⟩
 · have ho : ¬ addOk x y := fun h => hL h.1
   have hv : addV x y = 0 := if_neg ho; have he : addE x y = 4 := if_neg ho; rw [hv, he]; refine region_st [[], [0], [], [], [2, 3], [1, 4], [5], [6], [7], [7], [], [8, 10], [9]] [9, 10, 21, 22, 23, 24, 25, 26, 27, 28, 29, 30] [34] (tyvC [(9, PT), (10, (iE 4)), (21, (TyC.tup1 (wfC (0)) (Value.int .i64 4))), (22, (pE g2_1 0)), (23, (wfC ((x).num))), (24, (wfC (dn y))), (25, (wfC (dg x y))), (26, (wfC ((dn y) / (dg x y)))), (27, (litC 2 35 [(wfC ((x).num)), (wfC ((dn y) / (dg x y)))])), (28, (TyC.tup1 (wfC (0)) (Value.int .i64 4))), (29, (wfC (0))), (30, (iE 4))]) XE3 XG3 (All.cn 9 34 35 11 #[.bool false, .slice none 0 0] (wfC (0)) XL3) (fun Q => ⟨sFa 22 (rO 2) (fld_f0 _), sLf 23 (rS 22 0) (fun K => lf_num (K.fac.box 4 rfl)), sLb 24 (rO 7) 3 aggInt (wf_str _), sLb 25 (rO 8) 1 aggInt (wf_str _), sC2 26 (rS 24 2) (rS 25 3) (fun K h0 h1 => k_over h0 h1 hg0) Tryz.func101, sL2 27 (L := [(wfC ((x).num)), (wfC ((dn y) / (dg x y)))]) (rS 23 1) (rS 26 4) (fun K h0 h1 => lit_35_2 (wi_cells (h0).1) (wi_cells (h1).1) h0 h1), sC1 28 (rS 27 5) (fun K h0 => k_prodno h0 hL) Tryz.func104, sMv 21 (rS 28 6), sEx 29 (rS 21 7) ex10, sEx 30 (rS 21 7) ex11, sAl 9 34 (zeroI _), sStn 9 34 10 0 (rS 29 8) aggInt (wf_str _), sMv 10 (rS 30 9), trivial⟩) ?_; intro bX fX w22 c22 a22 XG22 yx yA yB yV yO yF; obtain ⟨g9_22, e9⟩ := kp (yV 9 rfl) rfl; have XE22 := XE3.up yF yO (ck e9 (ck (kv (yV 10 rfl) rfl) kn)); have XL22 := (All.cb (yA.nb 0 rfl e9 (yB 11 (by decide))) (yA.pk yB rfl [1, 2, 3, 5, 6])); have XN22 := XN3.trans yx rfl; clear yx yA yB yV yO yF; show Code.wp _ _ _ _ _; refine wp_seq ?_; refine wp_seq ?_; refine region_st [[], [0]] [31, 32] [] (tyvC [(31, (iE 4)), (32, (bE true))]) XE22 XG22 XL22 (fun Q => ⟨sMv 31 (rO 10), sBin 32 (rS 31 0) (rK (Value.int IntKind.i64 0)) (fun h h' => ⟨h, rfl⟩) (eqg_int _ _ _ _ _ _ _ _) (run_as (run_neq _ _ _ _) rfl), trivial⟩) ?_; intro bX fX w23 c23 a23 XG23 yx yA yB yV yO yF; have XE23 := XE22.up yF yO (ck (kv (yV 32 rfl) rfl) kn); have XL23 := (yA.pk yB rfl [0, 1, 2, 3, 4, 5]); have XN23 := XN22.trans yx rfl; clear yx yA yB yV yO yF; show Code.wp _ _ _ _ _; refine wp_cond (t := true) (XE23.at 32 rfl) ?_; refine wp_seq ?_; refine region_st [[], [], [0], [1]] [5, 33, 34] [23] (tyvC [(5, (iE 4)), (33, (ffC (0))), (34, (iE 4))]) XE23 XG23 (All.stg 5 2 (Fact.box g4_1 52 23 (ffC (0))) XL23) (fun Q => ⟨sB0 33  (fun K => b_ff0), sMv 34 (rO 10), sSto 23 (rO 4) (rS 33 0) aggF (ff_str _) (fun K => BoxC.old (K.fac.sb0 5 rfl K.self) (ff_str _)) (fun K h0 => h0), sMv 5 (rS 34 1), trivial⟩) ?_; intro bX fX w24 c24 a24 XG24 yx yA yB yV yO yF; have XE24 := XE23.up yF yO (ck (kv (yV 5 rfl) rfl) kn); have XL24 := (yA.pk yB rfl [0, 1, 2, 3, 4, 5]); have XN24 := XN23.trans yx rfl; clear yx yA yB yV yO yF; show Code.wp _ _ _ _ _; refine wp_ret ?_; (repeat (first | (with_reducible refine then_ret ?_) | (with_reducible refine inBlock_ret ?_) | (with_reducible refine then_normal ?_) | (with_reducible refine inBlock_normal ?_))); show bodyPost Tryz.prog Tryz.f40 _ Exit.ret a24 w24
   obtain ⟨r0, hr0, hs0⟩ := BoxC.load (All.box XL24 5 rfl) aggF (ff_str _); subst hc0; exact bodyPost_ret (res_ct rfl _ (XE24.at 4 rfl) hr0 (XE24.at 5 rfl)) XE24.2.1 ⟨_, rfl, ⟨_, rfl, hs0⟩, XN24.new0⟩

theorem k_fadd {w : World} {c : Colr} {v v' : Value} {r r' : Rat} (h : (ffC r).sat v w c) (h' : (ffC r').sat v' w c) : CV Tryz.prog 40 #[v, v'] w c ((ffC (addV r r')).tup1 (.int .i64 (addE r r'))) := (t_fadd w v v' r r' h h').cv (plain_tup1 (pl_ff _))
set_option maxRecDepth 100000 in
set_option maxHeartbeats 4000000 in
theorem t_fsub (w : World) (v v' : Value) (x y : Rat) (z : Int) (h : (ffC x).sat v w (fun _ => 0)) (h' : (fdC y z).sat v' w (fun _ => 0)) (hz : z = dn y ∨ (z = 0 ∧ dn y = 1)) : CT0 Tryz.prog 42 #[v, v'] w (TyC.tup1 (ffC (addV x (-y))) (Value.int .i64 (addE x (-y)))) := by
 have fy := h'.2.1; refine enter_st Tryz.func42 rfl Tryz.ntmps42 [(0, v), (1, v')] rfl ⟨rfl, rfl, trivial⟩ (Nat.le_of_ble_eq_true rfl) ?_; intro a0 XE0; obtain ⟨c0, hc0⟩ : ∃ c0 : Colr, c0 = fun _ => 0 := ⟨_, rfl⟩; have XG0 : GI w c0 := hc0 ▸ GI.zero w; have XN0 : Ext [21, 22, 23] w c0 w c0 := Ext.refl rfl XG0; have XL0 : All [.s (Fact.val (ffC (x)) v), .s (Fact.val (fdC y z) (v'))] b0 f0 w c0 := ⟨(hc0 ▸ h), (hc0 ▸ h'), trivial⟩; refine wp_seq ?_; refine region_st [[], [], [], []] [2, 3, 4, 5] [21, 22, 23] (tyvC [(2, PT), (3, PT), (4, PT), (5, (iE 0))]) XE0 XG0 (All.cn 2 21 52 0 #[] (ffC (x)) (All.cn 3 22 52 1 #[] (fdC y z) (All.cn 4 23 52 2 #[] (ffC (0)) XL0))) (fun Q => ⟨sBox 2 21 (rO 0) (fun K h0 => bxs (ff_str _) (K.fac.val 3 rfl)), sBox 3 22 (rO 1) (fun K h0 => bxs (fd_str _ _) (K.fac.val 4 rfl)), sAlz 4 23 (zeroF _) (ff_zero), sMv 5 (rK (Value.int IntKind.i64 0)), trivial⟩) ?_; intro bX fX w1 c1 a1 XG1 yx yA yB yV yO yF; obtain ⟨g2_1, e2⟩ := kp (yV 2 rfl) rfl; obtain ⟨g3_1, e3⟩ := kp (yV 3 rfl) rfl; obtain ⟨g4_1, e4⟩ := kp (yV 4 rfl) rfl; have XE1 := XE0.up yF yO (ck e2 (ck e3 (ck e4 (ck (kv (yV 5 rfl) rfl) kn)))); have XL1 := (All.cb (yA.nb 0 rfl e2 (yB 0 (by decide))) (All.cb (yA.nb 1 rfl e3 (yB 1 (by decide))) (All.cb (yA.nb 2 rfl e4 (yB 2 (by decide))) (yA.pk yB rfl [])))); have XN1 := XN0.trans yx rfl; clear yx yA yB yV yO yF; show Code.wp _ _ _ _ _; refine wp_seq ?_; refine region_st [[], [], [1], [2], [], [4], [3, 5], [0, 6], [7], [7], [8], [9]] [5, 6, 7, 8, 9, 10, 11, 12, 13, 14, 15] [23] (tyvC [(5, (iE (addE x (-y)))), (6, (ffC (x))), (7, (pE g3_1 0)), (8, (wfC ((y).num))), (9, (wfC (-((y).num)))), (10, (pE g3_1 2)), (11, (wfC (z))), (12, (ffC (-y))), (13, (TyC.tup1 (ffC (addV x (-y))) (Value.int .i64 (addE x (-y))))), (14, (ffC (addV x (-y)))), (15, (iE (addE x (-y))))]) XE1 XG1 (All.stg 2 10 (Fact.box g4_1 52 23 (ffC (addV x (-y)))) XL1) (fun Q => ⟨sLb 6 (rO 2) 0 aggF (ff_str _), sFa 7 (rO 3) (fld_f0 _), sLf 8 (rS 7 1) (fun K => lfd_num (K.fac.box 1 rfl)), sC1 9 (rS 8 2) (fun K h0 => k_wneg h0) Tryz.func99, sFa 10 (rO 3) (fld_f1 _), sLf 11 (rS 10 4) (fun K => lfd_den (K.fac.box 1 rfl)), sB2 12 (rS 9 3) (rS 11 5) (fun K h0 h1 => b_fd h0 h1 hz fy), sC2 13 (rS 6 0) (rS 12 6) (fun K h0 h1 => k_fadd h0 h1) Tryz.func40, sEx 14 (rS 13 7) ex10, sEx 15 (rS 13 7) ex11, sSto 23 (rO 4) (rS 14 8) aggF (ff_str _) (fun K => BoxC.old (K.fac.sb0 2 rfl K.self) (ff_str _)) (fun K h0 => h0), sMv 5 (rS 15 9), trivial⟩) ?_; intro bX fX w2 c2 a2 XG2 yx yA yB yV yO yF; have XE2 := XE1.up yF yO (ck (kv (yV 5 rfl) rfl) kn); have XL2 := (yA.pk yB rfl [2]); have XN2 := XN1.trans yx rfl; clear yx yA yB yV yO yF; show Code.wp _ _ _ _ _; refine wp_ret ?_; (repeat (first | (with_reducible refine then_ret ?_) | (with_reducible refine inBlock_ret ?_) | (with_reducible refine then_normal ?_) | (with_reducible refine inBlock_normal ?_))); show bodyPost Tryz.prog Tryz.f42 _ Exit.ret a2 w2; obtain ⟨r0, hr0, hs0⟩ := BoxC.load (All.box XL2 0 rfl) aggF (ff_str _); subst hc0
 exact bodyPost_ret (res_ct rfl _ (XE2.at 4 rfl) hr0 (XE2.at 5 rfl)) XE2.2.1 ⟨_, rfl, ⟨_, rfl, hs0⟩, XN2.new0⟩

theorem k_fsub {w : World} {c : Colr} {v v' : Value} {r r' : Rat} (h : (ffC r).sat v w c) (h' : (ffC r').sat v' w c) : CV Tryz.prog 42 #[v, v'] w c ((ffC (addV r (-r'))).tup1 (.int .i64 (addE r (-r')))) := by
  obtain ⟨z, hz, h1⟩ := ff_fd h'
  exact (t_fsub w v v' r r' z h h1 hz).cv (plain_tup1 (pl_ff _))
set_option maxRecDepth 100000 in
set_option maxHeartbeats 4000000 in
theorem t_fmul (w : World) (v v' : Value) (x y : Rat) (h : (ffC x).sat v w (fun _ => 0)) (h' : (ffC y).sat v' w (fun _ => 0)) : CT0 Tryz.prog 44 #[v, v'] w (TyC.tup1 (ffC (rgR (x * y))) (Value.int .i64 (rgRE (x * y)))) := by
 have hg0 := gh_ne x y; have hg1 := gh_ne y x; have em1 : (x * y).num = x.num / gh x y * (y.num / gh y x) := mul_num x y; have em2 : dn (x * y) = dn x / gh y x * (dn y / gh x y) := mul_den x y; refine enter_st Tryz.func44 rfl Tryz.ntmps44 [(0, v), (1, v')] rfl ⟨rfl, rfl, trivial⟩ (Nat.le_of_ble_eq_true rfl) ?_; intro a0 XE0; obtain ⟨c0, hc0⟩ : ∃ c0 : Colr, c0 = fun _ => 0 := ⟨_, rfl⟩; have XG0 : GI w c0 := hc0 ▸ GI.zero w; have XN0 : Ext [21, 22, 23, 24, 25, 26, 27, 28, 29, 30, 31, 32, 33] w c0 w c0 := Ext.refl rfl XG0; have XL0 : All [.s (Fact.val (ffC (x)) v), .s (Fact.val (ffC (y)) (v'))] b0 f0 w c0 := ⟨(hc0 ▸ h), (hc0 ▸ h'), trivial⟩; refine wp_seq ?_; refine region_st [[], [], [], []] [2, 3, 4, 5] [21, 22, 23] (tyvC [(2, PT), (3, PT), (4, PT), (5, (iE 0))]) XE0 XG0 (All.cn 2 21 52 0 #[] (ffC (x)) (All.cn 3 22 52 1 #[] (ffC (y)) (All.cn 4 23 52 2 #[] (ffC (0)) XL0))) (fun Q => ⟨sBox 2 21 (rO 0) (fun K h0 => bxs (ff_str _) (K.fac.val 3 rfl)), sBox 3 22 (rO 1) (fun K h0 => bxs (ff_str _) (K.fac.val 4 rfl)), sAlz 4 23 (zeroF _) (ff_zero), sMv 5 (rK (Value.int IntKind.i64 0)), trivial⟩) ?_; intro bX fX w1 c1 a1 XG1 yx yA yB yV yO yF; obtain ⟨g2_1, e2⟩ := kp (yV 2 rfl) rfl; obtain ⟨g3_1, e3⟩ := kp (yV 3 rfl) rfl; obtain ⟨g4_1, e4⟩ := kp (yV 4 rfl) rfl; have XE1 := XE0.up yF yO (ck e2 (ck e3 (ck e4 (ck (kv (yV 5 rfl) rfl) kn)))); have XL1 := (All.cb (yA.nb 0 rfl e2 (yB 0 (by decide))) (All.cb (yA.nb 1 rfl e3 (yB 1 (by decide))) (All.cb (yA.nb 2 rfl e4 (yB 2 (by decide))) (yA.pk yB rfl [])))); have XN1 := XN0.trans yx rfl; clear yx yA yB yV yO yF; show Code.wp _ _ _ _ _; refine wp_seq ?_; refine region_st [[], [0], [], [2], [], [4], [], [6], [], [], [], [], [1, 8], [3, 9], [5, 10], [7, 11]] [6, 7, 8, 9, 15, 16, 17, 18, 19, 20, 21, 22] [24, 25, 26, 27] (tyvC [(6, PT), (7, PT), (8, PT), (9, PT), (15, (pE g2_1 0)), (16, (wfC ((x).num))), (17, (ffC (x))), (18, (wfC (dn x))), (19, (pE g3_1 0)), (20, (wfC ((y).num))), (21, (ffC (y))), (22, (wfC (dn y)))]) XE1 XG1 (All.cn 6 24 35 12 #[.bool false, .slice none 0 0] (wfC ((x).num)) (All.cn 7 25 35 13 #[.bool false, .slice none 0 0] (wfC (dn x)) (All.cn 8 26 35 14 #[.bool false, .slice none 0 0] (wfC ((y).num)) (All.cn 9 27 35 15 #[.bool false, .slice none 0 0] (wfC (dn y)) XL1)))) (fun Q => ⟨sFa 15 (rO 2) (fld_f0 _), sLf 16 (rS 15 0) (fun K => lf_num (K.fac.box 4 rfl)), sLb 17 (rO 2) 4 aggF (ff_str _), sC1 18 (rS 17 2) (fun K h0 => k_den h0) Tryz.func64, sFa 19 (rO 3) (fld_f0 _), sLf 20 (rS 19 4) (fun K => lf_num (K.fac.box 5 rfl)), sLb 21 (rO 3) 5 aggF (ff_str _), sC1 22 (rS 21 6) (fun K h0 => k_den h0) Tryz.func64, sAl 6 24 (zeroI _), sAl 7 25 (zeroI _), sAl 8 26 (zeroI _), sAl 9 27 (zeroI _), sStn 6 24 8 0 (rS 16 1) aggInt (wf_str _), sStn 7 25 9 1 (rS 18 3) aggInt (wf_str _), sStn 8 26 10 2 (rS 20 5) aggInt (wf_str _), sStn 9 27 11 3 (rS 22 7) aggInt (wf_str _), trivial⟩) ?_; intro bX fX w2 c2 a2 XG2 yx yA yB yV yO yF; obtain ⟨g6_2, e6⟩ := kp (yV 6 rfl) rfl; obtain ⟨g7_2, e7⟩ := kp (yV 7 rfl) rfl; obtain ⟨g8_2, e8⟩ := kp (yV 8 rfl) rfl; obtain ⟨g9_2, e9⟩ := kp (yV 9 rfl) rfl
 have XE2 := XE1.up yF yO (ck e6 (ck e7 (ck e8 (ck e9 kn)))); have XL2 := (All.cb (yA.nb 0 rfl e6 (yB 12 (by decide))) (All.cb (yA.nb 1 rfl e7 (yB 13 (by decide))) (All.cb (yA.nb 2 rfl e8 (yB 14 (by decide))) (All.cb (yA.nb 3 rfl e9 (yB 15 (by decide))) (yA.pk yB rfl [6]))))); have XN2 := XN1.trans yx rfl; clear yx yA yB yV yO yF; show Code.wp _ _ _ _ _; refine wp_seq ?_; refine region_st [[], [], [0, 1], [], [], [3, 4], [], [], [2, 6], [5, 7]] [10, 11, 23, 24, 25, 26, 27, 28] [28, 29] (tyvC [(10, PT), (11, PT), (23, (wfC ((x).num))), (24, (wfC (dn y))), (25, (wfC (gh x y))), (26, (wfC ((y).num))), (27, (wfC (dn x))), (28, (wfC (gh y x)))]) XE2 XG2 (All.cn 10 28 35 8 #[.bool false, .slice none 0 0] (wfC (gh x y)) (All.cn 11 29 35 9 #[.bool false, .slice none 0 0] (wfC (gh y x)) XL2)) (fun Q => ⟨sLb 23 (rO 6) 2 aggInt (wf_str _), sLb 24 (rO 9) 5 aggInt (wf_str _), sC2 25 (rS 23 0) (rS 24 1) (fun K h0 h1 => k_wgcd h0 h1 (by have := dn_pos y; omega)) Tryz.func100, sLb 26 (rO 8) 4 aggInt (wf_str _), sLb 27 (rO 7) 3 aggInt (wf_str _), sC2 28 (rS 26 3) (rS 27 4) (fun K h0 h1 => k_wgcd h0 h1 (by have := dn_pos x; omega)) Tryz.func100, sAl 10 28 (zeroI _), sAl 11 29 (zeroI _), sStn 10 28 6 0 (rS 25 2) aggInt (wf_str _), sStn 11 29 7 1 (rS 28 5) aggInt (wf_str _), trivial⟩) ?_; intro bX fX w3 c3 a3 XG3 yx yA yB yV yO yF; obtain ⟨g10_3, e10⟩ := kp (yV 10 rfl) rfl; obtain ⟨g11_3, e11⟩ := kp (yV 11 rfl) rfl; have XE3 := XE2.up yF yO (ck e10 (ck e11 kn)); have XL3 := (All.cb (yA.nb 0 rfl e10 (yB 8 (by decide))) (All.cb (yA.nb 1 rfl e11 (yB 9 (by decide))) (yA.pk yB rfl [2, 3, 4, 5, 6]))); have XN3 := XN2.trans yx rfl; clear yx yA yB yV yO yF; show Code.wp _ _ _ _ _; refine wp_seq ?_; by_cases hL : fit (x.num / gh x y * (y.num / gh y x))
 · skip
   refine region_st [[], [], [0, 1], [], [], [3, 4], [2, 5], [6], [7], [8], [8], [], [9, 11], [10]] [12, 13, 29, 30, 31, 32, 33, 34, 35, 36, 37, 38, 39] [30] (tyvC [(12, PT), (13, (iE 0)), (29, (TyC.tup1 (wfC (x.num / gh x y * (y.num / gh y x))) (Value.int .i64 0))), (30, (wfC ((x).num))), (31, (wfC (gh x y))), (32, (wfC (((x).num) / (gh x y)))), (33, (wfC ((y).num))), (34, (wfC (gh y x))), (35, (wfC (((y).num) / (gh y x)))), (36, (litC 2 35 [(wfC (((x).num) / (gh x y))), (wfC (((y).num) / (gh y x)))])), (37, (TyC.tup1 (wfC (x.num / gh x y * (y.num / gh y x))) (Value.int .i64 0))), (38, (wfC (x.num / gh x y * (y.num / gh y x)))), (39, (iE 0))]) XE3 XG3 (All.cn 12 30 35 12 #[.bool false, .slice none 0 0] (wfC (x.num / gh x y * (y.num / gh y x))) XL3) (fun Q => ⟨sLb 30 (rO 6) 3 aggInt (wf_str _), sLb 31 (rO 10) 1 aggInt (wf_str _), sC2 32 (rS 30 0) (rS 31 1) (fun K h0 h1 => k_over h0 h1 hg0) Tryz.func101, sLb 33 (rO 8) 5 aggInt (wf_str _), sLb 34 (rO 11) 2 aggInt (wf_str _), sC2 35 (rS 33 3) (rS 34 4) (fun K h0 h1 => k_over h0 h1 hg1) Tryz.func101, sL2 36 (L := [(wfC (((x).num) / (gh x y))), (wfC (((y).num) / (gh y x)))]) (rS 32 2) (rS 35 5) (fun K h0 h1 => lit_35_2 (wi_cells (h0).1) (wi_cells (h1).1) h0 h1), sC1 37 (rS 36 6) (fun K h0 => k_prodok h0 hL) Tryz.func104, sMv 29 (rS 37 7), sEx 38 (rS 29 8) ex10, sEx 39 (rS 29 8) ex11, sAl 12 30 (zeroI _), sStn 12 30 11 0 (rS 38 9) aggInt (wf_str _), sMv 13 (rS 39 10), trivial⟩) ?_; intro bX fX w4 c4 a4 XG4 yx yA yB yV yO yF; obtain ⟨g12_4, e12⟩ := kp (yV 12 rfl) rfl; have XE4 := XE3.up yF yO (ck e12 (ck (kv (yV 13 rfl) rfl) kn)); have XL4 := (All.cb (yA.nb 0 rfl e12 (yB 12 (by decide))) (yA.pk yB rfl [1, 2, 4, 6, 7])); have XN4 := XN3.trans yx rfl; clear yx yA yB yV yO yF; show Code.wp _ _ _ _ _; refine wp_seq ?_; refine wp_seq ?_; refine region_st [[], [0]] [40, 41] [] (tyvC [(40, (iE 0)), (41, (bE false))]) XE4 XG4 XL4 (fun Q => ⟨sMv 40 (rO 13), sBin 41 (rS 40 0) (rK (Value.int IntKind.i64 0)) (fun h h' => ⟨h, rfl⟩) (eqg_int _ _ _ _ _ _ _ _) (run_as (run_neq _ _ _ _) rfl), trivial⟩) ?_; intro bX fX w5 c5 a5 XG5 yx yA yB yV yO yF; have XE5 := XE4.up yF yO (ck (kv (yV 41 rfl) rfl) kn); have XL5 := (yA.pk yB rfl [0, 1, 2, 3, 4, 5]); have XN5 := XN4.trans yx rfl; clear yx yA yB yV yO yF; show Code.wp _ _ _ _ _; refine wp_cond (t := false) (XE5.at 41 rfl) ?_; refine wp_skip ?_; show Code.wp _ _ _ _ _; refine wp_seq ?_; by_cases hR : fit (dn x / gh y x * (dn y / gh x y))
   · skip
     refine region_st [[], [], [0, 1], [], [], [3, 4], [2, 5], [6], [7], [8], [8], [], [9, 11], [10]] [13, 14, 44, 45, 46, 47, 48, 49, 50, 51, 52, 53, 54] [31] (tyvC [(13, (iE 0)), (14, PT), (44, (TyC.tup1 (wfC (dn x / gh y x * (dn y / gh x y))) (Value.int .i64 0))), (45, (wfC (dn x))), (46, (wfC (gh y x))), (47, (wfC ((dn x) / (gh y x)))), (48, (wfC (dn y))), (49, (wfC (gh x y))), (50, (wfC ((dn y) / (gh x y)))), (51, (litC 2 35 [(wfC ((dn x) / (gh y x))), (wfC ((dn y) / (gh x y)))])), (52, (TyC.tup1 (wfC (dn x / gh y x * (dn y / gh x y))) (Value.int .i64 0))), (53, (wfC (dn x / gh y x * (dn y / gh x y)))), (54, (iE 0))]) XE5 XG5 (All.cn 14 31 35 12 #[.bool false, .slice none 0 0] (wfC (dn x / gh y x * (dn y / gh x y))) XL5) (fun Q => ⟨sLb 45 (rO 7) 4 aggInt (wf_str _), sLb 46 (rO 11) 3 aggInt (wf_str _), sC2 47 (rS 45 0) (rS 46 1) (fun K h0 h1 => k_over h0 h1 hg1) Tryz.func101, sLb 48 (rO 9) 5 aggInt (wf_str _), sLb 49 (rO 10) 2 aggInt (wf_str _), sC2 50 (rS 48 3) (rS 49 4) (fun K h0 h1 => k_over h0 h1 hg0) Tryz.func101, sL2 51 (L := [(wfC ((dn x) / (gh y x))), (wfC ((dn y) / (gh x y)))]) (rS 47 2) (rS 50 5) (fun K h0 h1 => lit_35_2 (wi_cells (h0).1) (wi_cells (h1).1) h0 h1), sC1 52 (rS 51 6) (fun K h0 => k_prodok h0 hR) Tryz.func104, sMv 44 (rS 52 7), sEx 53 (rS 44 8) ex10, sEx 54 (rS 44 8) ex11, sAl 14 31 (zeroI _), sStn 14 31 11 0 (rS 53 9) aggInt (wf_str _), sMv 13 (rS 54 10), trivial⟩) ?_; intro bX fX w6 c6 a6 XG6 yx yA yB yV yO yF; obtain ⟨g14_6, e14⟩ := kp (yV 14 rfl) rfl; have XE6 := XE5.up yF yO (ck (kv (yV 13 rfl) rfl) (ck e14 kn)); have XL6 := (All.cb (yA.nb 0 rfl e14 (yB 12 (by decide))) (yA.pk yB rfl [1, 6])); have XN6 := XN5.trans yx rfl; clear yx yA yB yV yO yF; show Code.wp _ _ _ _ _; refine wp_seq ?_; refine wp_seq ?_; refine region_st [[], [0]] [55, 56] [] (tyvC [(55, (iE 0)), (56, (bE false))]) XE6 XG6 XL6 (fun Q => ⟨sMv 55 (rO 13), sBin 56 (rS 55 0) (rK (Value.int IntKind.i64 0)) (fun h h' => ⟨h, rfl⟩) (eqg_int _ _ _ _ _ _ _ _) (run_as (run_neq _ _ _ _) rfl), trivial⟩) ?_; intro bX fX w7 c7 a7 XG7 yx yA yB yV yO yF; have XE7 := XE6.up yF yO (ck (kv (yV 56 rfl) rfl) kn); have XL7 := (yA.pk yB rfl [0, 1, 2]); have XN7 := XN6.trans yx rfl; clear yx yA yB yV yO yF; show Code.wp _ _ _ _ _; refine wp_cond (t := false) (XE7.at 56 rfl) ?_; refine wp_skip ?_; show Code.wp _ _ _ _ _; refine wp_seq ?_; have hf : ft (x * y) := ⟨em1 ▸ hL, em2 ▸ hR⟩; have hD0 : dn x / gh y x * (dn y / gh x y) ≠ 0 := by have := dn_pos (x * y); omega
     have em3 := mul_mk x y; have hv : rgR (x * y) = mkV (x.num / gh x y * (y.num / gh y x)) (dn x / gh y x * (dn y / gh x y)) := by unfold rgR mkV; rw [if_pos hf, if_neg hD0, ← em1, ← em2]; exact em3.symm
     have he : rgRE (x * y) = mkE (dn x / gh y x * (dn y / gh x y)) := by unfold rgRE mkE; rw [if_pos hf, if_neg hD0]
     rw [hv, he]; refine region_st [[], [], [0, 1], [2], [2], [3], [4]] [5, 59, 60, 61, 62, 63] [23] (tyvC [(5, (iE (mkE (dn x / gh y x * (dn y / gh x y))))), (59, (wfC (x.num / gh x y * (y.num / gh y x)))), (60, (wfC (dn x / gh y x * (dn y / gh x y)))), (61, (TyC.tup1 (ffC (mkV (x.num / gh x y * (y.num / gh y x)) (dn x / gh y x * (dn y / gh x y)))) (Value.int .i64 (mkE (dn x / gh y x * (dn y / gh x y)))))), (62, (ffC (mkV (x.num / gh x y * (y.num / gh y x)) (dn x / gh y x * (dn y / gh x y))))), (63, (iE (mkE (dn x / gh y x * (dn y / gh x y)))))]) XE7 XG7 (All.stg 2 5 (Fact.box g4_1 52 23 (ffC (mkV (x.num / gh x y * (y.num / gh y x)) (dn x / gh y x * (dn y / gh x y))))) XL7) (fun Q => ⟨sLb 59 (rO 12) 1 aggInt (wf_str _), sLb 60 (rO 14) 0 aggInt (wf_str _), sC2 61 (rS 59 0) (rS 60 1) (fun K h0 h1 => k_make h0 h1) Tryz.func29, sEx 62 (rS 61 2) ex10, sEx 63 (rS 61 2) ex11, sSto 23 (rO 4) (rS 62 3) aggF (ff_str _) (fun K => BoxC.old (K.fac.sb0 2 rfl K.self) (ff_str _)) (fun K h0 => h0), sMv 5 (rS 63 4), trivial⟩) ?_; intro bX fX w8 c8 a8 XG8 yx yA yB yV yO yF; have XE8 := XE7.up yF yO (ck (kv (yV 5 rfl) rfl) kn); have XL8 := (yA.pk yB rfl [2]); have XN8 := XN7.trans yx rfl; clear yx yA yB yV yO yF; show Code.wp _ _ _ _ _; refine wp_ret ?_; (repeat (first | (with_reducible refine then_ret ?_) | (with_reducible refine inBlock_ret ?_) | (with_reducible refine then_normal ?_) | (with_reducible refine inBlock_normal ?_))); show bodyPost Tryz.prog Tryz.f44 _ Exit.ret a8 w8; obtain ⟨r0, hr0, hs0⟩ := BoxC.load (All.box XL8 0 rfl) aggF (ff_str _); subst hc0; exact bodyPost_ret (res_ct rfl _ (XE8.at 4 rfl) hr0 (XE8.at 5 rfl)) XE8.2.1 ⟨_, rfl, ⟨_, rfl, hs0⟩, XN8.new0⟩
   · have hf : ¬ ft (x * y) := fun h => hR (em2 ▸ h.2)
     have hv : rgR (x * y) = 0 := if_neg hf; have he : rgRE (x * y) = 4 := if_neg hf; rw [hv, he]; refine region_st [[], [], [0, 1], [], [], [3, 4], [2, 5], [6], [7], [8], [8], [], [9, 11], [10]] [13, 14, 44, 45, 46, 47, 48, 49, 50, 51, 52, 53, 54] [32] (tyvC [(13, (iE 4)), (14, PT), (44, (TyC.tup1 (wfC (0)) (Value.int .i64 4))), (45, (wfC (dn x))), (46, (wfC (gh y x))), (47, (wfC ((dn x) / (gh y x)))), (48, (wfC (dn y))), (49, (wfC (gh x y))), (50, (wfC ((dn y) / (gh x y)))), (51, (litC 2 35 [(wfC ((dn x) / (gh y x))), (wfC ((dn y) / (gh x y)))])), (52, (TyC.tup1 (wfC (0)) (Value.int .i64 4))), (53, (wfC (0))), (54, (iE 4))]) XE5 XG5 (All.cn 14 32 35 12 #[.bool false, .slice none 0 0] (wfC (0)) XL5) (fun Q => ⟨sLb 45 (rO 7) 4 aggInt (wf_str _), sLb 46 (rO 11) 3 aggInt (wf_str _), sC2 47 (rS 45 0) (rS 46 1) (fun K h0 h1 => k_over h0 h1 hg1) Tryz.func101, sLb 48 (rO 9) 5 aggInt (wf_str _), sLb 49 (rO 10) 2 aggInt (wf_str _), sC2 50 (rS 48 3) (rS 49 4) (fun K h0 h1 => k_over h0 h1 hg0) Tryz.func101, sL2 51 (L := [(wfC ((dn x) / (gh y x))), (wfC ((dn y) / (gh x y)))]) (rS 47 2) (rS 50 5) (fun K h0 h1 => lit_35_2 (wi_cells (h0).1) (wi_cells (h1).1) h0 h1), sC1 52 (rS 51 6) (fun K h0 => k_prodno h0 hR) Tryz.func104, sMv 44 (rS 52 7), sEx 53 (rS 44 8) ex10, sEx 54 (rS 44 8) ex11, sAl 14 32 (zeroI _), sStn 14 32 11 0 (rS 53 9) aggInt (wf_str _), sMv 13 (rS 54 10), trivial⟩) ?_; intro bX fX w9 c9 a9 XG9 yx yA yB yV yO yF; obtain ⟨g14_9, e14⟩ := kp (yV 14 rfl) rfl; have XE9 := XE5.up yF yO (ck (kv (yV 13 rfl) rfl) (ck e14 kn)); have XL9 := (All.cb (yA.nb 0 rfl e14 (yB 12 (by decide))) (yA.pk yB rfl [1, 6])); have XN9 := XN5.trans yx rfl; clear yx yA yB yV yO yF; show Code.wp _ _ _ _ _; refine wp_seq ?_; refine wp_seq ?_; refine region_st [[], [0]] [55, 56] [] (tyvC [(55, (iE 4)), (56, (bE true))]) XE9 XG9 XL9 (fun Q => ⟨sMv 55 (rO 13), sBin 56 (rS 55 0) (rK (Value.int IntKind.i64 0)) (fun h h' => ⟨h, rfl⟩) (eqg_int _ _ _ _ _ _ _ _) (run_as (run_neq _ _ _ _) rfl), trivial⟩) ?_; intro bX fX w10 c10 a10 XG10 yx yA yB yV yO yF; have XE10 := XE9.up yF yO (ck (kv (yV 56 rfl) rfl) kn); have XL10 := (yA.pk yB rfl [0, 1, 2]); have XN10 := XN9.trans yx rfl; clear yx yA yB yV yO yF; show Code.wp _ _ _ _ _; refine wp_cond (t := true) (XE10.at 56 rfl) ?_; refine wp_seq ?_; refine region_st [[], [], [0], [1]] [5, 57, 58] [23] (tyvC [(5, (iE 4)), (57, (ffC (0))), (58, (iE 4))]) XE10 XG10 (All.stg 2 2 (Fact.box g4_1 52 23 (ffC (0))) XL10) (fun Q => ⟨sB0 57  (fun K => b_ff0), sMv 58 (rO 13), sSto 23 (rO 4) (rS 57 0) aggF (ff_str _) (fun K => BoxC.old (K.fac.sb0 2 rfl K.self) (ff_str _)) (fun K h0 => h0), sMv 5 (rS 58 1), trivial⟩) ?_; intro bX fX w11 c11 a11 XG11 yx yA yB yV yO yF; have XE11 := XE10.up yF yO (ck (kv (yV 5 rfl) rfl) kn); have XL11 := (yA.pk yB rfl [0, 1, 2]); have XN11 := XN10.trans yx rfl; clear yx yA yB yV yO yF; show Code.wp _ _ _ _ _; refine wp_ret ?_; (repeat (first | (with_reducible refine then_ret ?_) | (with_reducible refine inBlock_ret ?_) | (with_reducible refine then_normal ?_) | (with_reducible refine inBlock_normal ?_)))
     show bodyPost Tryz.prog Tryz.f44 _ Exit.ret a11 w11; obtain ⟨r0, hr0, hs0⟩ := BoxC.load (All.box XL11 2 rfl) aggF (ff_str _); subst hc0; exact bodyPost_ret (res_ct rfl _ (XE11.at 4 rfl) hr0 (XE11.at 5 rfl)) XE11.2.1 ⟨_, rfl, ⟨_, rfl, hs0⟩, XN11.new0⟩
 · have hf : ¬ ft (x * y) := fun h => hL (em1 ▸ h.1)
   have hv : rgR (x * y) = 0 := if_neg hf; have he : rgRE (x * y) = 4 := if_neg hf; rw [hv, he]; refine region_st [[], [], [0, 1], [], [], [3, 4], [2, 5], [6], [7], [8], [8], [], [9, 11], [10]] [12, 13, 29, 30, 31, 32, 33, 34, 35, 36, 37, 38, 39] [33] (tyvC [(12, PT), (13, (iE 4)), (29, (TyC.tup1 (wfC (0)) (Value.int .i64 4))), (30, (wfC ((x).num))), (31, (wfC (gh x y))), (32, (wfC (((x).num) / (gh x y)))), (33, (wfC ((y).num))), (34, (wfC (gh y x))), (35, (wfC (((y).num) / (gh y x)))), (36, (litC 2 35 [(wfC (((x).num) / (gh x y))), (wfC (((y).num) / (gh y x)))])), (37, (TyC.tup1 (wfC (0)) (Value.int .i64 4))), (38, (wfC (0))), (39, (iE 4))]) XE3 XG3 (All.cn 12 33 35 12 #[.bool false, .slice none 0 0] (wfC (0)) XL3) (fun Q => ⟨sLb 30 (rO 6) 3 aggInt (wf_str _), sLb 31 (rO 10) 1 aggInt (wf_str _), sC2 32 (rS 30 0) (rS 31 1) (fun K h0 h1 => k_over h0 h1 hg0) Tryz.func101, sLb 33 (rO 8) 5 aggInt (wf_str _), sLb 34 (rO 11) 2 aggInt (wf_str _), sC2 35 (rS 33 3) (rS 34 4) (fun K h0 h1 => k_over h0 h1 hg1) Tryz.func101, sL2 36 (L := [(wfC (((x).num) / (gh x y))), (wfC (((y).num) / (gh y x)))]) (rS 32 2) (rS 35 5) (fun K h0 h1 => lit_35_2 (wi_cells (h0).1) (wi_cells (h1).1) h0 h1), sC1 37 (rS 36 6) (fun K h0 => k_prodno h0 hL) Tryz.func104, sMv 29 (rS 37 7), sEx 38 (rS 29 8) ex10, sEx 39 (rS 29 8) ex11, sAl 12 33 (zeroI _), sStn 12 33 11 0 (rS 38 9) aggInt (wf_str _), sMv 13 (rS 39 10), trivial⟩) ?_; intro bX fX w12 c12 a12 XG12 yx yA yB yV yO yF; obtain ⟨g12_12, e12⟩ := kp (yV 12 rfl) rfl; have XE12 := XE3.up yF yO (ck e12 (ck (kv (yV 13 rfl) rfl) kn)); have XL12 := (All.cb (yA.nb 0 rfl e12 (yB 12 (by decide))) (yA.pk yB rfl [1, 2, 4, 6, 7])); have XN12 := XN3.trans yx rfl; clear yx yA yB yV yO yF; show Code.wp _ _ _ _ _; refine wp_seq ?_; refine wp_seq ?_; refine region_st [[], [0]] [40, 41] [] (tyvC [(40, (iE 4)), (41, (bE true))]) XE12 XG12 XL12 (fun Q => ⟨sMv 40 (rO 13), sBin 41 (rS 40 0) (rK (Value.int IntKind.i64 0)) (fun h h' => ⟨h, rfl⟩) (eqg_int _ _ _ _ _ _ _ _) (run_as (run_neq _ _ _ _) rfl), trivial⟩) ?_; intro bX fX w13 c13 a13 XG13 yx yA yB yV yO yF; have XE13 := XE12.up yF yO (ck (kv (yV 41 rfl) rfl) kn); have XL13 := (yA.pk yB rfl [0, 1, 2, 3, 4, 5]); have XN13 := XN12.trans yx rfl; clear yx yA yB yV yO yF; show Code.wp _ _ _ _ _; refine wp_cond (t := true) (XE13.at 41 rfl) ?_; refine wp_seq ?_; refine region_st [[], [], [0], [1]] [5, 42, 43] [23] (tyvC [(5, (iE 4)), (42, (ffC (0))), (43, (iE 4))]) XE13 XG13 (All.stg 5 2 (Fact.box g4_1 52 23 (ffC (0))) XL13) (fun Q => ⟨sB0 42  (fun K => b_ff0), sMv 43 (rO 13), sSto 23 (rO 4) (rS 42 0) aggF (ff_str _) (fun K => BoxC.old (K.fac.sb0 5 rfl K.self) (ff_str _)) (fun K h0 => h0), sMv 5 (rS 43 1), trivial⟩) ?_; intro bX fX w14 c14 a14 XG14 yx yA yB yV yO yF; have XE14 := XE13.up yF yO (ck (kv (yV 5 rfl) rfl) kn); have XL14 := (yA.pk yB rfl [0, 1, 2, 3, 4, 5]); have XN14 := XN13.trans yx rfl; clear yx yA yB yV yO yF; show Code.wp _ _ _ _ _; refine wp_ret ?_; (repeat (first | (with_reducible refine then_ret ?_) | (with_reducible refine inBlock_ret ?_) | (with_reducible refine then_normal ?_) | (with_reducible refine inBlock_normal ?_)))
   show bodyPost Tryz.prog Tryz.f44 _ Exit.ret a14 w14; obtain ⟨r0, hr0, hs0⟩ := BoxC.load (All.box XL14 5 rfl) aggF (ff_str _); subst hc0; exact bodyPost_ret (res_ct rfl _ (XE14.at 4 rfl) hr0 (XE14.at 5 rfl)) XE14.2.1 ⟨_, rfl, ⟨_, rfl, hs0⟩, XN14.new0⟩

theorem k_fmul {w : World} {c : Colr} {v v' : Value} {r r' : Rat} (h : (ffC r).sat v w c) (h' : (ffC r').sat v' w c) : CV Tryz.prog 44 #[v, v'] w c ((ffC (rgR (r * r'))).tup1 (.int .i64 (rgRE (r * r')))) := (t_fmul w v v' r r' h h').cv (plain_tup1 (pl_ff _))
set_option maxRecDepth 100000 in
set_option maxHeartbeats 4000000 in
theorem t_fdiv (w : World) (v v' : Value) (x y : Rat) (h : (ffC x).sat v w (fun _ => 0)) (h' : (ffC y).sat v' w (fun _ => 0)) : CT0 Tryz.prog 46 #[v, v'] w (TyC.tup1 (ffC (divV x y)) (Value.int .i64 (divE x y))) := by
 refine enter_st Tryz.func46 rfl Tryz.ntmps46 [(0, v), (1, v')] rfl ⟨rfl, rfl, trivial⟩ (Nat.le_of_ble_eq_true rfl) ?_; intro a0 XE0; obtain ⟨c0, hc0⟩ : ∃ c0 : Colr, c0 = fun _ => 0 := ⟨_, rfl⟩; have XG0 : GI w c0 := hc0 ▸ GI.zero w; have XN0 : Ext [21, 22, 23, 24] w c0 w c0 := Ext.refl rfl XG0; have XL0 : All [.s (Fact.val (ffC (x)) v), .s (Fact.val (ffC (y)) (v'))] b0 f0 w c0 := ⟨(hc0 ▸ h), (hc0 ▸ h'), trivial⟩; refine wp_seq ?_; refine region_st [[], [], [], []] [2, 3, 4, 5] [21, 22, 23] (tyvC [(2, PT), (3, PT), (4, PT), (5, (iE 0))]) XE0 XG0 (All.cn 2 21 52 0 #[] (ffC (x)) (All.cn 3 22 52 1 #[] (ffC (y)) (All.cn 4 23 52 2 #[] (ffC (0)) XL0))) (fun Q => ⟨sBox 2 21 (rO 0) (fun K h0 => bxs (ff_str _) (K.fac.val 3 rfl)), sBox 3 22 (rO 1) (fun K h0 => bxs (ff_str _) (K.fac.val 4 rfl)), sAlz 4 23 (zeroF _) (ff_zero), sMv 5 (rK (Value.int IntKind.i64 0)), trivial⟩) ?_; intro bX fX w1 c1 a1 XG1 yx yA yB yV yO yF; obtain ⟨g2_1, e2⟩ := kp (yV 2 rfl) rfl; obtain ⟨g3_1, e3⟩ := kp (yV 3 rfl) rfl; obtain ⟨g4_1, e4⟩ := kp (yV 4 rfl) rfl; have XE1 := XE0.up yF yO (ck e2 (ck e3 (ck e4 (ck (kv (yV 5 rfl) rfl) kn)))); have XL1 := (All.cb (yA.nb 0 rfl e2 (yB 0 (by decide))) (All.cb (yA.nb 1 rfl e3 (yB 1 (by decide))) (All.cb (yA.nb 2 rfl e4 (yB 2 (by decide))) (yA.pk yB rfl [])))); have XN1 := XN0.trans yx rfl; clear yx yA yB yV yO yF; show Code.wp _ _ _ _ _; refine wp_seq ?_; refine wp_seq ?_; by_cases h0 : y = 0
 · have hv : divV x y = 0 := if_pos h0
   have he : divE x y = 1 := if_pos h0; rw [hv, he]; have hq : y.num = 0 := by rw [h0]; rfl
   refine region_st [[], [0], [1], [2]] [8, 9, 10, 11] [] (tyvC [(8, (pE g3_1 0)), (9, (wfC ((y).num))), (10, (iE (cmpI ((y).num) 0))), (11, (bE true))]) XE1 XG1 XL1 (fun Q => ⟨sFa 8 (rO 3) (fld_f0 _), sLf 9 (rS 8 0) (fun K => lf_num (K.fac.box 1 rfl)), sC1 10 (rS 9 1) (fun K h0 => k_wsign h0) Tryz.func24, sBin 11 (z := Value.int .i64 (cmpI ((y).num) 0)) (z' := Value.int IntKind.i64 0) (u := Value.bool true) (rS 10 2) (rK (Value.int IntKind.i64 0)) (fun h h' => ⟨h, rfl⟩) (eqg_int _ _ _ _ _ _ _ _) (run_as (run_eql _ _ _ _) (by rw [cmpI_eq hq]; rfl)), trivial⟩) ?_; intro bX fX w2 c2 a2 XG2 yx yA yB yV yO yF; have XE2 := XE1.up yF yO (ck (kv (yV 11 rfl) rfl) kn); have XL2 := (yA.pk yB rfl [0, 1, 2]); have XN2 := XN1.trans yx rfl; clear yx yA yB yV yO yF; show Code.wp _ _ _ _ _; refine wp_cond (t := true) (XE2.at 11 rfl) ?_; refine wp_seq ?_; refine region_st [[], [0], []] [5, 12] [23] (tyvC [(5, (iE 1)), (12, (ffC (0)))]) XE2 XG2 (All.stg 2 1 (Fact.box g4_1 52 23 (ffC (0))) XL2) (fun Q => ⟨sB0 12  (fun K => b_ff0), sSto 23 (rO 4) (rS 12 0) aggF (ff_str _) (fun K => BoxC.old (K.fac.sb0 2 rfl K.self) (ff_str _)) (fun K h0 => h0), sMv 5 (rK (Value.int IntKind.i64 1)), trivial⟩) ?_; intro bX fX w3 c3 a3 XG3 yx yA yB yV yO yF; have XE3 := XE2.up yF yO (ck (kv (yV 5 rfl) rfl) kn); have XL3 := (yA.pk yB rfl [0, 1, 2]); have XN3 := XN2.trans yx rfl; clear yx yA yB yV yO yF; show Code.wp _ _ _ _ _; refine wp_ret ?_; (repeat (first | (with_reducible refine then_ret ?_) | (with_reducible refine inBlock_ret ?_) | (with_reducible refine then_normal ?_) | (with_reducible refine inBlock_normal ?_))); show bodyPost Tryz.prog Tryz.f46 _ Exit.ret a3 w3; obtain ⟨r0, hr0, hs0⟩ := BoxC.load (All.box XL3 2 rfl) aggF (ff_str _); subst hc0; exact bodyPost_ret (res_ct rfl _ (XE3.at 4 rfl) hr0 (XE3.at 5 rfl)) XE3.2.1 ⟨_, rfl, ⟨_, rfl, hs0⟩, XN3.new0⟩
 · have hq : ¬ y.num = 0 := fun e => h0 (Rat.num_eq_zero.1 e)
   have hv : divV x y = rgR (x * mkV (dn y) y.num) := by unfold divV mkV; rw [if_neg h0, if_neg hq, inv_eq, Rat.div_def]
   have he : divE x y = rgRE (x * mkV (dn y) y.num) := by unfold divE mkV; rw [if_neg h0, if_neg hq, inv_eq, Rat.div_def]
   rw [hv, he]; refine region_st [[], [0], [1], [2]] [8, 9, 10, 11] [] (tyvC [(8, (pE g3_1 0)), (9, (wfC ((y).num))), (10, (iE (cmpI ((y).num) 0))), (11, (bE false))]) XE1 XG1 XL1 (fun Q => ⟨sFa 8 (rO 3) (fld_f0 _), sLf 9 (rS 8 0) (fun K => lf_num (K.fac.box 1 rfl)), sC1 10 (rS 9 1) (fun K h0 => k_wsign h0) Tryz.func24, sBin 11 (z := Value.int .i64 (cmpI ((y).num) 0)) (z' := Value.int IntKind.i64 0) (u := Value.bool false) (rS 10 2) (rK (Value.int IntKind.i64 0)) (fun h h' => ⟨h, rfl⟩) (eqg_int _ _ _ _ _ _ _ _) (run_as (run_eql _ _ _ _) (by rw [cmpI_ne0 hq])), trivial⟩) ?_; intro bX fX w4 c4 a4 XG4 yx yA yB yV yO yF; have XE4 := XE1.up yF yO (ck (kv (yV 11 rfl) rfl) kn); have XL4 := (yA.pk yB rfl [0, 1, 2]); have XN4 := XN1.trans yx rfl; clear yx yA yB yV yO yF; show Code.wp _ _ _ _ _; refine wp_cond (t := false) (XE4.at 11 rfl) ?_; refine wp_skip ?_; show Code.wp _ _ _ _ _; refine wp_seq ?_; refine region_st [[], [0], [], [2], [1, 3], [4], [5], [5], [], [6, 8], [7]] [6, 7, 13, 14, 15, 16, 17, 18, 19, 20] [24] (tyvC [(6, PT), (7, (iE (mkE ((y).num)))), (13, (TyC.tup1 (ffC (mkV (dn y) ((y).num))) (Value.int .i64 (mkE ((y).num))))), (14, (ffC (y))), (15, (wfC (dn y))), (16, (pE g3_1 0)), (17, (wfC ((y).num))), (18, (TyC.tup1 (ffC (mkV (dn y) ((y).num))) (Value.int .i64 (mkE ((y).num))))), (19, (ffC (mkV (dn y) ((y).num)))), (20, (iE (mkE ((y).num))))]) XE4 XG4 (All.cn 6 24 52 9 #[.bool false, .slice none 0 0, .bool false, .slice none 0 0] (ffC (mkV (dn y) ((y).num))) XL4) (fun Q => ⟨sLb 14 (rO 3) 2 aggF (ff_str _), sC1 15 (rS 14 0) (fun K h0 => k_den h0) Tryz.func64, sFa 16 (rO 3) (fld_f0 _), sLf 17 (rS 16 2) (fun K => lf_num (K.fac.box 2 rfl)), sC2 18 (rS 15 1) (rS 17 3) (fun K h0 h1 => k_make h0 h1) Tryz.func29, sMv 13 (rS 18 4), sEx 19 (rS 13 5) ex10, sEx 20 (rS 13 5) ex11, sAl 6 24 (zeroF _), sStn 6 24 8 0 (rS 19 6) aggF (ff_str _), sMv 7 (rS 20 7), trivial⟩) ?_; intro bX fX w5 c5 a5 XG5 yx yA yB yV yO yF; obtain ⟨g6_5, e6⟩ := kp (yV 6 rfl) rfl; have XE5 := XE4.up yF yO (ck e6 kn); have XL5 := (All.cb (yA.nb 0 rfl e6 (yB 9 (by decide))) (yA.pk yB rfl [1, 3])); have XN5 := XN4.trans yx rfl; clear yx yA yB yV yO yF; show Code.wp _ _ _ _ _; refine wp_seq ?_; refine region_st [[], [], [0, 1], [2], [2], [3], [4]] [5, 21, 22, 23, 24, 25] [23] (tyvC [(5, (iE (rgRE (x * (mkV (dn y) ((y).num)))))), (21, (ffC (x))), (22, (ffC (mkV (dn y) ((y).num)))), (23, (TyC.tup1 (ffC (rgR (x * (mkV (dn y) ((y).num))))) (Value.int .i64 (rgRE (x * (mkV (dn y) ((y).num))))))), (24, (ffC (rgR (x * (mkV (dn y) ((y).num)))))), (25, (iE (rgRE (x * (mkV (dn y) ((y).num))))))]) XE5 XG5 (All.stg 2 5 (Fact.box g4_1 52 23 (ffC (rgR (x * (mkV (dn y) ((y).num)))))) XL5) (fun Q => ⟨sLb 21 (rO 2) 1 aggF (ff_str _), sLb 22 (rO 6) 0 aggF (ff_str _), sC2 23 (rS 21 0) (rS 22 1) (fun K h0 h1 => k_fmul h0 h1) Tryz.func44, sEx 24 (rS 23 2) ex10, sEx 25 (rS 23 2) ex11, sSto 23 (rO 4) (rS 24 3) aggF (ff_str _) (fun K => BoxC.old (K.fac.sb0 2 rfl K.self) (ff_str _)) (fun K h0 => h0), sMv 5 (rS 25 4), trivial⟩) ?_
   intro bX fX w6 c6 a6 XG6 yx yA yB yV yO yF; have XE6 := XE5.up yF yO (ck (kv (yV 5 rfl) rfl) kn); have XL6 := (yA.pk yB rfl [2]); have XN6 := XN5.trans yx rfl; clear yx yA yB yV yO yF; show Code.wp _ _ _ _ _; refine wp_ret ?_; (repeat (first | (with_reducible refine then_ret ?_) | (with_reducible refine inBlock_ret ?_) | (with_reducible refine then_normal ?_) | (with_reducible refine inBlock_normal ?_))); show bodyPost Tryz.prog Tryz.f46 _ Exit.ret a6 w6; obtain ⟨r0, hr0, hs0⟩ := BoxC.load (All.box XL6 0 rfl) aggF (ff_str _); subst hc0; exact bodyPost_ret (res_ct rfl _ (XE6.at 4 rfl) hr0 (XE6.at 5 rfl)) XE6.2.1 ⟨_, rfl, ⟨_, rfl, hs0⟩, XN6.new0⟩

theorem k_fdiv {w : World} {c : Colr} {v v' : Value} {r r' : Rat} (h : (ffC r).sat v w c) (h' : (ffC r').sat v' w c) : CV Tryz.prog 46 #[v, v'] w c ((ffC (divV r r')).tup1 (.int .i64 (divE r r'))) := (t_fdiv w v v' r r' h h').cv (plain_tup1 (pl_ff _))
end Go.Proofs.YtbocpkjajocpiaaGreatDoor
