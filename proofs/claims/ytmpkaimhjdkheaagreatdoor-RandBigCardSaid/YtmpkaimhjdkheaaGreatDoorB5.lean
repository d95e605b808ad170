/- The parts TextC, TextD, TextE, RefI, RefJ, RefU, Pick01, TextF, RandMix, RandBack, RandOrder, RandLives, BigA of the proof, in one text. -/
import Derived.Deep.RegionHeld3
import Derived.Deep.RegionWith
import Derived.IntWalk
import Derived.Deep.CutRange
import Derived.Deep.QuietTactic
import Derived.BigQuiet
import Derived.Test.YtmpkaimhjdkheaaGreatDoorB4
set_option linter.unusedSimpArgs false
set_option linter.unusedVariables false

namespace Go.Txt
set_option linter.unusedVariables false
theorem decFrom_val {l : List UInt8} (h : AllDig l) : ∀ a, Lib.decFrom a l = some (a * 10 ^ l.length + decVal l) := by
  induction l using snocRec with
  | nil => intro a; simp [Lib.decFrom, decVal_nil]
  | snoc l c ih =>
    intro a
    have hc := h.right c (by simp)
    have h1 := ih h.left a
    have h2 := Lib.decFrom_take (l ++ [c]) l.length a (a * 10 ^ l.length + decVal l) c (c.toNat - 48) (by rw [List.take_left' rfl]; exact h1) (by simp) (by unfold Lib.digitVal; unfold isDig at hc; rw [if_pos hc])
    rw [List.take_of_length_le (by simp)] at h2
    rw [h2, decVal_snoc, List.length_append, List.length_singleton, Nat.pow_succ]
    congr 1
    rw [Nat.add_mul, Nat.mul_assoc, Nat.add_assoc]
theorem atoi_val {l : List UInt8} (h : AllDig l) (hn : l ≠ []) : Lib.atoi l = some (decVal l : Int) := by
  cases l with
  | nil => exact absurd rfl hn
  | cons c t =>
    have hc := h c (by simp)
    unfold isDig at hc
    have h1 : (c == 45) = false := by simp; intro e; subst e; simp at hc
    have h2 : (c == 43) = false := by simp; intro e; subst e; simp at hc
    simp only [Lib.atoi, h1, h2, Bool.false_eq_true, if_false, Lib.decNat, List.isEmpty_cons]
    rw [decFrom_val h 0]
    simp
theorem hasPrefix45 (l : List UInt8) : Lib.hasPrefix l [45] = decide (l.head? = some 45) := by
  unfold Lib.hasPrefix
  cases l with
  | nil => simp [List.isPrefixOf]
  | cons a t =>
    simp only [List.isPrefixOf, Bool.and_true, List.head?_cons, Option.some.injEq]
    rw [Bool.eq_iff_iff, beq_iff_eq, decide_eq_true_iff]
    exact ⟨fun h => h.symm, fun h => h.symm⟩
theorem trimPrefix45 (l : List UInt8) : Lib.trimPrefix l [45] = body l := by
  unfold Lib.trimPrefix body
  rw [hasPrefix45]
  by_cases h : l.head? = some 45
  · simp [h]
  · simp [h]
end Go.Txt
namespace Go.Proofs.YtmpkaimhjdkheaaGreatDoor
set_option linter.unusedVariables false
open Go.RowKit Go.Mem Go.Dig
open Go.Lib (decDigits)

theorem St_dat (l : List UInt8) : (St l).data.toList = l := by simp [St]
theorem St_take (l : List UInt8) (k : Nat) : (St l).extract 0 k = St (l.take k) := by
  apply ByteArray.ext
  simp [St]
theorem St_drop (l : List UInt8) (k : Nat) : (St l).extract k (St l).size = St (l.drop k) := by
  apply ByteArray.ext
  simp [St, ByteArray.size]
  rw [List.take_of_length_le (by simp)]

theorem cut_any (b : ByteArray) (l : List UInt8) (hb : b = St l) (w : World) :
    Calls Tryz.prog 21 #[.string b, .string ⟨#[45]⟩] w fun e w' => e = .returned (.tuple #[.string (St (Txt.body l)), .bool (decide (l.head? = some 45))]) ∧ w = w' := by
  refine (Tryz.strings_CutPrefix b ⟨#[45]⟩ w).mono ?_
  rintro e w' ⟨rfl, rfl⟩
  subst hb
  rw [St_dat, show (⟨#[45]⟩ : ByteArray).data.toList = [45] by rfl, Txt.trimPrefix45, Txt.hasPrefix45]
  exact ⟨rfl, rfl⟩
theorem atoi_any (b : ByteArray) (l : List UInt8) (hb : b = St l) (h : Txt.AllDig l) (hn : l ≠ []) (h9 : l.length ≤ 9) (w : World) :
    Calls Tryz.prog 23 #[.string b] w fun e w' => e = .returned (.tuple #[.int .i64 (Txt.decVal l : Int), .nilIface]) ∧ New w w' := by
  subst hb
  refine (Tryz.strconv_Atoi (St l) (Txt.decVal l) (by rw [St_size]; omega) (by rw [St_dat]; exact Txt.atoi_val h hn) w).mono ?_
  rintro e w' ⟨rfl, t, rfl⟩
  exact ⟨rfl, conv_new _ _ _⟩

theorem sg_reads {l : List UInt8} {z : Int} (h : Txt.Reads l z) : sg (decide (l.head? = some 45)) (Txt.decVal (Txt.body l)) = z := by
  rw [h.2.2]
  unfold sg
  by_cases hs : l.head? = some 45 <;> simp [hs]
theorem WD.lit1 {W : World} {g d : Nat} {t : TypeId} (hb : Blk W g t #[.int .u32 (d : Int)]) (hd : d < 4294967296) : WD W (some ⟨g, 0, none⟩) 1 1 d := by
  refine ⟨[d], ⟨rfl, fun _ => ⟨_, rfl, fun j u hu => ?_⟩⟩, Nat.le_refl _, by omega, ⟨Digs.cons hd (Digs.nil _), by simp [val_cons, val_nil]⟩⟩
  match j, hu with
  | 0, hu =>
    simp [nv] at hu
    subst hu
    rw [Addr.add_lit]
    exact hb.cell 0 rfl
theorem WM.lit1 {W : World} {g d : Nat} {t : TypeId} (hb : Blk W g t #[.int .u32 (d : Int)]) (hd : d < 4294967296) (h1 : 1 ≤ d) : WM W (some ⟨g, 0, none⟩) 1 1 d := by
  obtain ⟨l, h2, h3, h4, h5⟩ := WD.lit1 hb hd
  refine ⟨[d], ?_, h3, h4, ⟨Digs.cons hd (Digs.nil _), by simp [Trim]; omega, by simp [val_cons, val_nil]⟩⟩
  refine ⟨rfl, fun _ => ⟨_, rfl, fun j u hu => ?_⟩⟩
  match j, hu with
  | 0, hu =>
    simp [nv] at hu
    subst hu
    rw [Addr.add_lit]
    exact hb.cell 0 rfl
theorem val_bound {l : List UInt8} (h : Txt.AllDig l) {k : Nat} (hk : l.length ≤ k) : Txt.decVal l < 4294967296 ^ k :=
  Nat.lt_of_lt_of_le (Txt.decVal_lt h) (Nat.le_trans (Nat.pow_le_pow_left (by omega) _) (Nat.pow_le_pow_right (by omega) hk))
theorem val_chunk (t : List UInt8) (k j : Nat) (hj : k + j ≤ t.length) (h9 : k = 0 ∨ j = 9) : Txt.decVal (t.take k) * 1000000000 + Txt.decVal ((t.drop k).take j) = Txt.decVal (t.take (k + j)) := by
  rw [List.take_add, Txt.decVal_append, List.length_take, Nat.min_eq_left (by simp; omega)]
  rcases h9 with h | h
  · subst h
    rw [List.take_zero, Txt.decVal_nil]
    omega
  · subst h; rfl

set_option maxHeartbeats 4000000 in
set_option maxRecDepth 100000 in
theorem wparse_ok (b : ByteArray) (l : List UInt8) (hb : b = St l) (hn : b.size ≤ 5000) (z : Int) (h : Txt.Reads l z) (w : World) :
    Calls Tryz.prog 11 #[.string b] w fun e w' => ∃ s A n c, e = .returned (.tuple #[.agg #[.bool s, .slice A n c], .int .i64 (rgE z)]) ∧ Hid (WI w' (.agg #[.bool s, .slice A n c]) (rg z) ∧ New w w') := by
  have h1 : decide ((5000 : Int) < (b.size : Int)) = false := by simp; omega
  have h1' : decide (5000 < b.size) = false := by simp; omega
  have hcut := cut_any b l hb
  obtain ⟨c, hc⟩ : ∃ c, St (Txt.body l) = c := ⟨_, rfl⟩
  have hbl := Txt.Reads.body_len l
  have hcs : c.size ≤ 5000 := by rw [← hc, St_size]; rw [hb, St_size] at hn; omega
  obtain ⟨g, hg⟩ : ∃ g, decide (l.head? = some 45) = g := ⟨_, rfl⟩
  rw [hc, hg] at hcut
  have hdg := digits_wide c (Txt.body l) hc.symm hcs true ⟨fun _ => h.1, fun _ => rfl⟩
  have hall := h.1.1
  have hsg := sg_reads h
  rw [hg] at hsg
  obtain ⟨t, ht⟩ : ∃ t, Txt.body l = t := ⟨_, rfl⟩
  rw [ht] at hc hall hsg
  have hneg : g = false ∨ (g = true ∧ (c.toList == [48]) = false) := by
    by_cases h45 : l.head? = some 45
    · right
      refine ⟨by rw [← hg]; simp [h45], ?_⟩
      have h2 := h.2.1
      have : t ≠ [48] := fun e => h2 ⟨h45, by rw [ht, e]⟩
      rw [Lib.toList_data, ← hc, St_dat]
      simpa using this
    · left; rw [← hg]; simp [h45]
  obtain ⟨E, hE⟩ : ∃ E, rgE z = E := ⟨_, rfl⟩
  rw [hE]
  have htl : t.length = c.size := by rw [← hc, St_size]
  have HC := Lib.hid (And.intro hcut hdg)
  have H0 := Lib.hid (And.intro hc (And.intro hall (And.intro hsg (And.intro hE htl))))
  clear hcut hdg hb h hc hg hbl hall hsg ht hE htl
  go_enter Tryz.func11, Tryz.ntmps11
  go_wp2_with fail
  refine Calls.new1 ?_
  intro W hbW hnW hzW
  refine (HC.out.1 W).mono ?_
  rintro e w1 ⟨rfl, rfl⟩
  go_wp2_with fail
  refine (HC.out.2 W).mono ?_
  rintro e w1 ⟨rfl, rfl⟩
  have HW := Lib.hid (And.intro hbW (And.intro hnW hzW))
  clear hbW hnW hzW HC
  have hneg2 : g = false ∨ (g = true ∧ (c.toList == [48]) = false ∧ ¬ c.toList = [48]) := by
    rcases hneg with h | ⟨h, h2⟩
    · exact .inl h
    · exact .inr ⟨h, h2, by simpa using h2⟩
  clear hneg
  have hran : ∀ R m d wo, WM wo R m d (Txt.decVal t) → Calls Tryz.prog 26 #[.bool g, .slice R m d] wo fun e w' => ∃ s' A' n' c', e = .returned (.tuple #[.agg #[.bool s', .slice A' n' c'], .int .i64 E]) ∧ Hid (WI w' (.agg #[.bool s', .slice A' n' c']) (rg z) ∧ New wo w') := fun R m d wo hwm => by
    have := ranged_wm g R m d _ wo hwm
    rw [H0.out.2.2.1, H0.out.2.2.2.1] at this
    exact this
  have HRAN := Lib.hid hran
  clear hran
  rcases hneg2 with h | ⟨h, h48, h48'⟩ <;> subst h
  all_goals
    go_wp2_with fail
    (try clear h48 h48')
    go_loopw [4, 6, 7, 8, 9] (fun s4 s6 _ _ _ wr => ∃ (k : Nat) (b' : ByteArray) (R : Option Addr) (m d : Nat), s4 = .string b' ∧ s6 = .slice R m d ∧ k + b'.size = c.size ∧ (k = 0 ∨ b'.size % 9 = 0) ∧ Hid (b' = St (t.drop k) ∧ WM wr R m d (Txt.decVal (t.take k)) ∧ New W wr)) (fun s4 _ _ _ _ _ => match s4 with | .string b => b.size | _ => 0)
    case atStart => exact ⟨0, c, none, 0, 0, rfl, rfl, by omega, .inl rfl, H0.out.1.symm, WM.zero _, Chg.refl _ _⟩
    case round =>
      obtain ⟨k, b', R, m, d, rfl, rfl, hkc, hk9, HI⟩ := hrel
      obtain ⟨wo, rfl⟩ : ∃ wo : World, wo = wr := ⟨_, rfl⟩
      obtain ⟨hc, hall, hsg, hE, htl⟩ := H0.out
      obtain ⟨hb', hwm, hnw⟩ := HI.out
      have hm : m ≤ 5000 := Nat.le_trans (hwm.len (val_bound (hall.take k) (k := c.size) (by simp; omega))) hcs
      by_cases h0 : b'.size = 0
      · have hpos : decide ((0 : Int) < ((b'.size : Nat) : Int)) = false := by rw [h0]; rfl
        have hpos' : decide (0 < b'.size) = false := by rw [h0]; rfl
        have hk : k = t.length := by omega
        rw [hk, List.take_length] at hwm
        have hran := HRAN.out R m d wo hwm
        have hbw := HW.out.1.chg hnw (fun h => h)
        have HR := Lib.hid (And.intro hran (And.intro hbw hnw))
        clear hc hall hsg hE htl hb' hwm hnw hk hran hbw HI h0
        go_wp2_with fail
        refine HR.out.1.mono ?_
        rintro e w5 ⟨s5, A5, n5, c5, rfl, H5⟩
        have hb5 := HR.out.2.1.chg H5.out.2 (fun h => h)
        have g0 := hb5.cell 0 rfl
        have g1 := hb5.cell 1 rfl
        have f0 := hb5.frozen 0
        have f1 := hb5.frozen 1
        have HB := Lib.hid hb5
        clear hb5
        go_wp2
        refine bodyPost_ret (res_ct rfl _ rfl (aggInt.load (HB.out.set2 _ _)) rfl) rfl ⟨s5, A5, n5, c5, rfl, H5.out.1.store HB.out (noInt_two _ _ _ _) (Chg.at2 _ _ _ _), ?_⟩
        exact Chg.owned ((HW.out.2.1.new HR.out.2.2).new H5.out.2) (Chg.at2 _ _ _ _) (fun k e => by omega)
      · have hpos : (0 : Int) < ((b'.size : Nat) : Int) := by omega
        have hpos' : 0 < b'.size := by omega
        obtain ⟨p, hp⟩ : ∃ p, b'.size - 1 = p := ⟨_, rfl⟩
        obtain ⟨q, hq⟩ : ∃ q, p % 9 = q := ⟨_, rfl⟩
        obtain ⟨j, hj⟩ : ∃ j, q + 1 = j := ⟨_, rfl⟩
        have hpi : ((b'.size : Nat) : Int) - 1 = (p : Int) := by omega
        have hqi : (p : Int) % 9 = (q : Int) := by omega
        have hji : (q : Int) + 1 = (j : Int) := by omega
        have hj9 : j ≤ 9 := by omega
        have hjb : j ≤ b'.size := by omega
        have hjk : k = 0 ∨ j = 9 := by omega
        have hrest : (b'.size - j) % 9 = 0 := by omega
        have hdl : (t.drop k).length = b'.size := by simp; omega
        obtain ⟨b1, hb1⟩ : ∃ x, St ((t.drop k).take j) = x := ⟨_, rfl⟩
        obtain ⟨b2, hb2⟩ : ∃ x, St ((t.drop k).drop j) = x := ⟨_, rfl⟩
        have hb2s : b2.size = b'.size - j := by rw [← hb2, St_size, List.length_drop, hdl]
        have hs1 : ∀ W, (Instr.slice 9 (.string b') none (some (.int .i64 (j : Int))) none).run Tryz.prog W = .ok (.string b1) W := fun W => by
          rw [run_slice_string_h W 9 b' Tryz.underlying9 .i64 (j : Int) (by omega) (by omega), Int.toNat_natCast, hb', St_take, hb1]
        have hs2 : ∀ W, (Instr.slice 9 (.string b') (some (.int .i64 (j : Int))) none none).run Tryz.prog W = .ok (.string b2) W := fun W => by
          rw [run_slice_string_l W 9 b' Tryz.underlying9 .i64 (j : Int) (by omega) (by omega), Int.toNat_natCast, hb', St_drop, hb2]
        have hat := atoi_any b1 ((t.drop k).take j) hb1.symm ((hall.drop k).take j) (by intro e; have := congrArg List.length e; simp at this; omega) (by simp; omega)
        have hPb := Txt.decVal_lt ((hall.drop k).take j)
        have hval := val_chunk t k j (by omega) hjk
        obtain ⟨P, hP⟩ : ∃ P, Txt.decVal ((t.drop k).take j) = P := ⟨_, rfl⟩
        obtain ⟨V, hV⟩ : ∃ V, Txt.decVal (t.take k) = V := ⟨_, rfl⟩
        rw [hP] at hat hPb hval
        rw [hV] at hwm hval
        have hPb2 : P < 1000000000 := by
          refine Nat.lt_of_lt_of_le hPb ?_
          refine Nat.le_trans (Nat.pow_le_pow_right (by omega) (show ((t.drop k).take j).length ≤ 9 by simp; omega)) (by decide)
        have HR := Lib.hid (And.intro hwm (And.intro hnw (And.intro hval (And.intro hat (show b2 = St (t.drop (k + j)) by rw [← hb2, List.drop_drop])))))
        have HRE := Lib.hid (And.intro hrest (And.intro hb2s (show j + b2.size = b'.size by omega)))
        clear hc hall hsg hE htl hb' hwm hnw HI h0 hp hq hj hjk hrest hdl hb1 hb2 hb2s hat hPb hval hP hV
        go_wp2_with fail
        refine (HR.out.2.2.2.1 wo).mono ?_
        rintro e w2 ⟨rfl, hn2⟩
        have HN2 := Lib.hid hn2
        clear hn2
        have hPi : (P : Int) % 4294967296 = (P : Int) := by omega
        go_wp2_with fail
        refine Calls.new1 ?_
        intro W3 hb3 hn3 hz3
        refine (mulMag_any R m d _ 1 1 V 1000000000 W3 ((HR.out.1.new HN2.out).new hn3) (WM.lit1 (d := 1000000000) hb3 (by omega) (by omega)) (by omega) (by omega)).mono ?_
        rintro e w4 ⟨R4, m4, d4, rfl, H4⟩
        have HN3 := Lib.hid hn3
        clear hb3 hn3 hz3
        have hm4 : m4 ≤ 5000 := by
          obtain ⟨hc, hall, hsg, hE, htl⟩ := H0.out
          have hb := val_bound (hall.take (k + j)) (k := c.size) (by simp; omega)
          rw [← HR.out.2.2.1] at hb
          exact Nat.le_trans (H4.out.1.len (k := c.size) (Nat.lt_of_le_of_lt (Nat.le_add_right _ _) hb)) hcs
        go_wp2_with fail
        refine Calls.new1 ?_
        intro W5 hb5 hn5 hz5
        refine (addMag_wd R4 m4 d4 _ 1 1 (V * 1000000000) P W5 (H4.out.1.new hn5).wd (WD.lit1 hb5 (by omega)) (by omega) (by omega)).mono ?_
        rintro e w6 ⟨R6, m6, d6, rfl, H6⟩
        have HN5 := Lib.hid hn5
        clear hb5 hn5 hz5
        go_wp2_with fail
        go_roundw
        case rel =>
          refine ⟨k + j, b2, R6, m6, d6, rfl, rfl, by have := HRE.out.2.2; omega, .inr (by rw [HRE.out.2.1]; exact HRE.out.1), HR.out.2.2.2.2, ?_, ?_⟩
          · have := H6.out.1
            rwa [HR.out.2.2.1] at this
          · exact ((((HR.out.2.1.new HN2.out).new HN3.out).new H4.out.2.2).new HN5.out).new H6.out.2
        case measure =>
          show b2.size < b'.size
          have := HRE.out.2.1
          omega
end Go.Proofs.YtmpkaimhjdkheaaGreatDoor

namespace Go.Proofs.YtmpkaimhjdkheaaGreatDoor
set_option linter.unusedVariables false
open Go.RowKit Go.Mem Go.Dig
open Go.Lib (decDigits)

/-- The library's table of powers of ten lies as its text lays it. -/
def PowTab (w : World) : Prop := Lib.TabIs Tryz.prog w "internal/strconv.uint64pow10" .u64 Lib.pow10Tab
theorem PowTab.chg {S : Nat → Prop} {w w' : World} (h : PowTab w) (hc : Chg S w w') (hs : ∀ g, Tryz.prog.globalNamed "internal/strconv.uint64pow10" = some g → ¬ S g) : PowTab w' := by
  unfold PowTab Lib.TabIs World.var? at h ⊢
  cases hg : Tryz.prog.globalNamed "internal/strconv.uint64pow10" with
  | none => rw [hg] at h; simp at h
  | some g =>
    rw [hg] at h
    simp only [Option.bind_some] at h ⊢
    cases ho : w.heap[g]? with
    | none => rw [ho] at h; simp at h
    | some o =>
      rw [hc.heap ho (hs g hg)]
      rw [ho] at h
      exact h
theorem PowTab.new {w w' : World} (h : PowTab w) (hc : New w w') : PowTab w' := h.chg hc (fun _ _ h => h)
theorem grow_new (w : World) (k : Nat) (os : Array Obj) : New w (Sort.grow (w.drewN k) os) := by
  refine ⟨rfl, rfl, rfl, by simp [Sort.grow, World.drewN], fun j hj _ => ?_⟩
  simp only [Sort.grow, World.drewN]
  rw [Array.getElem?_append_left hj]

theorem itoa_any (d : Nat) (hd : d < 1000000000) (w : World) (ht : PowTab w) :
    Calls Tryz.prog 37 #[.int .i64 (d : Int)] w fun e w' => e = .returned (.string (St (decDigits d))) ∧ New w w' := by
  refine (Tryz.strconv_Itoa (d : Int) (by omega) (by omega) w ht).mono ?_
  rintro e w' ⟨rfl, k, os, rfl⟩
  refine ⟨?_, grow_new _ _ _⟩
  have : Lib.itoa (d : Int) = decDigits d := by
    unfold Lib.itoa
    rw [if_neg (by omega), Int.toNat_natCast]
  rw [this]
  rfl
theorem repeatL_rep (c : Nat) : Lib.repeatL [48] c = List.replicate c 48 := by
  induction c with
  | zero => rfl
  | succ c ih => rw [Lib.repeatL, ih, List.replicate_succ]; rfl
theorem repeat_any (c : Nat) (hc : c ≤ 9) (w : World) :
    Calls Tryz.prog 38 #[.string ⟨#[48]⟩, .int .i64 (c : Int)] w fun e w' => e = .returned (.string (St (List.replicate c 48))) ∧ New w w' := by
  refine (Tryz.strings_Repeat ⟨#[48]⟩ c w (by omega) (by rw [show (⟨#[48]⟩ : ByteArray).size = 1 by rfl]; omega)).mono ?_
  rintro e w' ⟨rfl, h⟩
  refine ⟨?_, New.of_below h⟩
  rw [show (⟨#[48]⟩ : ByteArray).data.toList = [48] by rfl, repeatL_rep]
  rfl
theorem elemStrs : Elem Tryz.prog 74 9 (.string ⟨#[]⟩) 16 := Elem.mk' Tryz.underlying74 (by kernel_rfl) rfl

/-- The parts of a text, the last first. -/
def joinR (ps : List (List UInt8)) : List UInt8 := ps.reverse.flatten
theorem joinR_snoc (ps : List (List UInt8)) (p : List UInt8) : joinR (ps ++ [p]) = p ++ joinR ps := by simp [joinR]
def StrI (T : List UInt8) (V : Nat) (ps : List (List UInt8)) : Prop := (if V = 0 then joinR ps else decDigits V ++ joinR ps) = T
theorem str_more {T : List UInt8} {V : Nat} {ps : List (List UInt8)} (h : StrI T V ps) (hq : 0 < V / 1000000000) : StrI T (V / 1000000000) (ps ++ [Txt.pad 9 (V % 1000000000)]) := by
  unfold StrI at h ⊢
  rw [if_neg (by omega)] at h ⊢
  have e := Txt.dec_pad 9 (V / 1000000000) (V % 1000000000) (Nat.mod_lt _ (by omega)) hq
  rw [show V / 1000000000 * 10 ^ 9 + V % 1000000000 = V by omega] at e
  rw [← h, e, joinR_snoc, List.append_assoc]
theorem str_last {T : List UInt8} {V : Nat} {ps : List (List UInt8)} (h : StrI T V ps) (h0 : V ≠ 0) (hq : V / 1000000000 = 0) : StrI T 0 (ps ++ [decDigits (V % 1000000000)]) := by
  unfold StrI at h ⊢
  rw [if_neg h0] at h
  rw [if_pos rfl, joinR_snoc, Nat.mod_eq_of_lt (by omega), h]
theorem pad9 {d : Nat} (hd : d < 1000000000) : List.replicate (9 - (decDigits d).length) 48 ++ decDigits d = Txt.pad 9 d := (Txt.pad_dec 9 d (by omega) (by omega)).symm
def strs (ps : List (List UInt8)) : List Value := ps.map (fun p => Value.string (St p))
theorem strs_one (ps : List (List UInt8)) : ∀ u ∈ strs ps, u.oneCell' = true := by
  intro u hu
  obtain ⟨_, _, rfl⟩ := List.mem_map.1 hu
  rfl
theorem StrI.len {T : List UInt8} {V : Nat} {ps : List (List UInt8)} (h : StrI T V ps) (hl : ps.length ≤ (joinR ps).length) : ps.length ≤ T.length := by
  unfold StrI at h
  rw [← h]
  split
  · exact hl
  · rw [List.length_append]; omega
theorem dec_words {Z n : Nat} (h : Z < 4294967296 ^ n) (hn : 1 ≤ n) : (decDigits Z).length ≤ 10 * n := by
  refine Txt.dec_len_le (by omega) (Nat.lt_of_lt_of_le h ?_)
  rw [Nat.pow_mul]
  exact Nat.pow_le_pow_left (by decide) n
/-- What the first loop of String holds. -/
def S1 (w : World) (T : List UInt8) (R : Option Addr) (m d : Nat) (PA : Option Addr) (k pc V : Nat) (ps : List (List UInt8)) (wr : World) : Prop :=
  WM wr R m d V ∧ StrI T V ps ∧ ps.length = k ∧ k ≤ (joinR ps).length ∧ wr.ownsRow w.heap.size 9 1 (.slice PA k pc) k (strs ps) ∧ New w wr
theorem chg_below {B : Nat} {w w' : World} (h : Below B w w') : Chg (fun j => B ≤ j) w w' := ⟨h.os, h.tape, h.output, h.size, fun k _ hn => h.block k (by omega)⟩
/-- What the second loop of String holds. -/
def S2 (wo : World) (gb : Nat) (sgn : List UInt8) (ps : List (List UInt8)) (k : Nat) (wr : World) : Prop :=
  Lib.IsBuilder 82 5 gb gb (Lib.byteCells (sgn ++ (ps.drop k).reverse.flatten)) wr ∧ Chg (fun j => gb ≤ j) wo wr
theorem flat_step {ps : List (List UInt8)} {k : Nat} {p : List UInt8} (h : ps[k]? = some p) : (ps.drop k).reverse.flatten = (ps.drop (k + 1)).reverse.flatten ++ p := by
  obtain ⟨hk, hp⟩ := List.getElem?_eq_some_iff.1 h
  rw [List.drop_eq_getElem_cons hk, hp]
  simp
theorem flat_le (ps : List (List UInt8)) (k : Nat) : (ps.drop k).reverse.flatten.length ≤ (joinR ps).length := by
  unfold joinR
  rw [← List.take_append_drop k ps, List.reverse_append, List.flatten_append, List.length_append]
  simp
theorem strCells_St (p : List UInt8) : Lib.strCells (St p) = Lib.byteCells p := by
  unfold Lib.strCells Lib.byteCells
  rw [St_dat]
theorem strs_at {ps : List (List UInt8)} {k : Nat} {u : Value} (h : (strs ps)[k]? = some u) : ∃ p, ps[k]? = some p ∧ u = .string (St p) := by
  simp only [strs, List.getElem?_map, Option.map_eq_some_iff] at h
  obtain ⟨c, h1, h2⟩ := h
  exact ⟨c, h1, h2.symm⟩
theorem S1.next {w2 wo w3 w6 w7 : World} {T : List UInt8} {R : Option Addr} {m d : Nat} {PA : Option Addr} {k pc V : Nat} {ps : List (List UInt8)} {g3 T1 m1 V1 c7 : Nat} {A7 : Option Addr} {p : List UInt8} {o : Obj} (h : S1 w2 T R m d PA k pc V ps wo) (hg : wo.heap.size ≤ g3) (hn3 : New wo w3) (hwm : WM w3 (some ⟨g3, 0, none⟩) T1 m1 V1) (hn6 : New w3 w6)
    (hown : w7.ownsRow w2.heap.size 9 1 (.slice A7 (k + 1) c7) (k + 1) (strs ps ++ strs [p])) (hgr : (w6.alloc o).grownBy w7 (blk PA)) (hst : StrI T V1 (ps ++ [p])) (hp : 1 ≤ p.length) : S1 w2 T (some ⟨g3, 0, none⟩) T1 m1 A7 (k + 1) c7 V1 (ps ++ [p]) w7 := by
  obtain ⟨h1, h2, h3, h4, h5, h6⟩ := h
  have hch : Chg (fun j => blk PA = some j) w6 w7 := ((Chg.refl _ w6).alloc o).grown hgr (fun j hj _ => hj)
  refine ⟨(hwm.new hn6).chg hch (fun j hj e => ?_), hst, by simp [h3], by rw [joinR_snoc, List.length_append]; omega, by rw [show strs (ps ++ [p]) = strs ps ++ strs [p] by simp [strs]]; exact hown, ?_⟩
  · have := (own_blk_le h5 e).2
    simp [blk] at hj
    omega
  · exact ((h6.new hn3).new hn6).trans hch (fun j hj e => by have := (own_blk_le h5 e).1; omega)
theorem rd_str {w : World} {b : ByteArray} {l : List UInt8} {e : TypeId} {g : Nat} (hg : g = w.heap.size) (hb : b = St l) : Rd (w.alloc (.cells #[.string b] e)) (some ⟨g, 0, none⟩) 1 (strs [l]) := by
  subst hg hb; exact Rd.lit (strs [l]) rfl

set_option maxHeartbeats 4000000 in
set_option maxRecDepth 100000 in
theorem wstring_any (v : Value) (z : Int) (w : World) (hv : WI w v z) (hpt : PowTab w) (hz : z.natAbs < 2 ^ 900000) :
    Calls Tryz.prog 15 #[v] w fun e w' => e = .returned (.string (St (Txt.text z))) ∧ New w w' := by
  obtain ⟨s, A, n, c, rfl, hs, hm⟩ := hv
  have hn := bz_wlen hm hz
  clear hz
  obtain ⟨T, hT⟩ : ∃ T, Txt.text z = T := ⟨_, rfl⟩
  rw [hT]
  by_cases h0 : n = 0
  · subst h0
    have hz0 : z.natAbs = 0 := hm.pos.1 rfl
    obtain rfl : [48] = T := by
      rw [← hT]; unfold Txt.text; rw [if_neg (by omega), hz0, Txt.dec_small (by omega)]; rfl
    clear hm hT hz0 hs hpt
    go_enter Tryz.func15, Tryz.ntmps15
    go_wp2
    go_ret
    exact ⟨rfl, (Chg.refl _ w).alloc _⟩
  · have hn0 : ((n : Int) == 0) = false := by simp; omega
    obtain ⟨Z, hZ⟩ : ∃ Z, z.natAbs = Z := ⟨_, rfl⟩
    rw [hZ] at hm
    have hZ1 : Z ≠ 0 := fun h => h0 (hm.pos.2 h)
    obtain ⟨la, hr, hnc, hc, hN⟩ := hm
    have H0 := Lib.hid (And.intro hr (And.intro hN (And.intro hs (And.intro hT (And.intro hZ hpt)))))
    have hbW := fun (W : World) => Rd.new (w := w) (w' := W) hr
    clear hr hN hs hT hZ hpt hbW
    go_enter Tryz.func15, Tryz.ntmps15
    go_upto_region 3 with fail
    refine Code.new1 ?_
    intro W hb1 hnW hzW
    have hk1 := hb1.cell 1 (u := .slice A n c) rfl
    have HW := Lib.hid (And.intro hb1 hnW)
    clear hb1 hnW hzW
    go_wp2_with (first
      | (at_make; refine wpList_mk elemU32 rfl rfl _ _ rfl (n := n) rfl rfl (by omega) (by omega) (by omega) (by simp only [maxLen]; omega) ?_; intro w1 hown1 hg1 hz1; have HMK := Lib.hid (And.intro hown1 (And.intro hg1 hz1)); have hk2 := hg1.cell hk1 (fun h => h); clear hown1 hg1 hz1)
      | ((with_reducible refine wpList_cp elemU32 rfl (.tmp 17) (.tmp 19) rfl rfl HMK.out.1 rfl (Nat.le_refl _) ((H0.out.1.new HW.out.2).new HMK.out.2.1) (nv_one _) ?_); intro w2 hown2 hch2; have HCP := Lib.hid (And.intro hown2 hch2); clear hown2 hch2))
    have hnw2 : New w w2 := Chg.owned (HW.out.2.new HMK.out.2.1) HCP.out.2 (fun k e => by have := HW.out.2.size; omega)
    have hb2 : Blk w2 w.heap.size 35 #[.bool s, .slice A n c] := (HW.out.1.chg HMK.out.2.1 (fun h => h)).chg HCP.out.2 (by have := HW.out.1.lt; omega)
    have hZlt : Z < 4294967296 ^ n := H0.out.2.1.lt (by omega) (by have := H0.out.1.len; rw [nv_length] at this; omega)
    obtain ⟨TD, hTD⟩ : ∃ x, decDigits Z = x := ⟨_, rfl⟩
    have hTl : TD.length ≤ 9000000 := by rw [← hTD]; have := dec_words hZlt (by omega); omega
    have hS : S1 w2 TD (some ⟨W.heap.size, 0, none⟩) n n none 0 0 Z [] w2 := by
      refine ⟨⟨la, ?_, Nat.le_refl _, by omega, H0.out.2.1⟩, ?_, rfl, Nat.zero_le _, World.ownsRow_nil w2 w2.heap.size _ _, Chg.refl _ _⟩
      · have := Rd.of_own HCP.out.1
        rwa [List.drop_eq_nil_of_le (by simp), List.append_nil] at this
      · unfold StrI; rw [if_neg hZ1, hTD]; simp [joinR]
    obtain ⟨gr, hgr⟩ : ∃ x, W.heap.size = x := ⟨_, rfl⟩
    rw [hgr] at hS
    simp only [hgr]
    have H2 := Lib.hid (And.intro hS (And.intro hnw2 (And.intro hb2 hTD)))
    clear hnw2 hb2 hZlt hTD hS hgr HCP HMK hk1 hk2
    go_loopw [3, 4, 5, 6] (fun s3 s4 _ _ wr => ∃ (R : Option Addr) (m d : Nat) (PA : Option Addr) (k pc V : Nat) (ps : List (List UInt8)), s3 = .slice R m d ∧ s4 = .slice PA k pc ∧ m ≤ 900000 ∧ Hid (S1 w2 TD R m d PA k pc V ps wr)) (fun s3 s4 _ _ _ => match s3, s4 with | .slice _ m _, .slice _ k _ => if m = 0 then 0 else 9000001 - k | _, _ => 0)
    case atStart => exact ⟨_, n, n, none, 0, 0, Z, [], rfl, rfl, hn, H2.out.1⟩
    case round =>
      obtain ⟨R, m, d, PA, k, pc, V, ps, rfl, rfl, hm, HS⟩ := hrel
      obtain ⟨wo, rfl⟩ : ∃ wo : World, wo = wr := ⟨_, rfl⟩
      obtain ⟨hwm, hst, hpl, hpj, hown, hnw⟩ := HS.out
      have hkT : k ≤ 9000000 := by have := hst.len (by omega); omega
      by_cases hm0 : m = 0
      · subst hm0
        have hV0 : V = 0 := hwm.pos.1 rfl
        subst hV0
        obtain ⟨gb, hgb⟩ : ∃ x, wo.heap.size = x := ⟨_, rfl⟩
        have hbo := H2.out.2.2.1.chg hnw (fun h => h)
        have hk0 := ((Chg.refl (fun _ => False) wo).alloc (.cells #[.pointer none, .slice none 0 0] 82)).cell (hbo.cell 0 (u := .bool s) rfl) (fun h => h)
        have hjT : joinR ps = TD := by unfold StrI at hst; rw [if_pos rfl] at hst; exact hst
        have hrd : Rd wo PA k (strs ps) := Rd.of_own hown
        have hblk : ∀ j, blk PA = some j → j < gb := fun j hj => by have := (own_blk_le hown hj).2; omega
        have hneww : New w wo := H2.out.2.1.new hnw
        have hlen : ∀ j, (ps.drop j).reverse.flatten.length ≤ 9000000 := fun j => Nat.le_trans (flat_le ps j) (by rw [hjT]; exact hTl)
        have HP := Lib.hid (And.intro hjT (And.intro hrd (And.intro hblk (And.intro hneww (And.intro hlen (And.intro hpl hgb))))))
        clear hwm hst hpj hown hnw HS hbo hjT hrd hblk hneww hlen hpl
        have fin : ∀ (sgn : List UInt8), sgn.length ≤ 1 → sgn ++ TD = T → ∀ (wr : World), S2 wo gb sgn ps 0 wr → Calls Tryz.prog 41 #[.pointer (some ⟨gb, 0, none⟩)] wr fun e w' => e = .returned (.string (St T)) ∧ Hid (New w w') := fun sgn _ hT wr h => by
          obtain ⟨h1, h2⟩ := h
          obtain ⟨hjT, hrd, hblk, hneww, hlen, hpl, hgb⟩ := HP.out
          rw [List.drop_zero, show ps.reverse.flatten = joinR ps by rfl, hjT, hT] at h1
          refine (Tryz.Builder_String_any gb gb T wr h1 (by have := h2.size; omega)).mono ?_
          rintro e w' ⟨rfl, hb⟩
          exact ⟨rfl, hneww.trans (h2.trans (chg_below hb) (fun _ _ h => h)) (fun j hj e => by have := hneww.size; omega)⟩
        have stp : ∀ (sgn : List UInt8), sgn.length ≤ 1 → ∀ (i : Nat) (p : List UInt8) (wr : World), ps[i]? = some p → S2 wo gb sgn ps (i + 1) wr → Calls Tryz.prog 40 #[.pointer (some ⟨gb, 0, none⟩), .string (St p)] wr fun e w' => (∃ v, e = .returned v) ∧ Hid (S2 wo gb sgn ps i w') := fun sgn hs1 i p wr hp h => by
          obtain ⟨h1, h2⟩ := h
          obtain ⟨hjT, hrd, hblk, hneww, hlen, hpl, hgb⟩ := HP.out
          have hl := hlen i
          rw [flat_step hp, List.length_append] at hl
          refine (Tryz.Builder_WriteString gb gb _ (St p) wr h1 (by simp only [Lib.byteCells, List.length_map, List.length_append, St_size]; omega) (by have := h2.size; omega)).mono ?_
          rintro e w' ⟨rfl, hb, hbel⟩
          refine ⟨⟨_, rfl⟩, ?_, h2.trans (chg_below hbel) (fun _ _ h => h)⟩
          rw [strCells_St, ← Lib.byteCells_append, List.append_assoc, ← flat_step hp] at hb
          exact .inr hb
        have HF := Lib.hid (And.intro fin stp)
        clear fin stp
        obtain ⟨hr, hN, hs, hT, hZ, hpt⟩ := H0.out
        have hTD := H2.out.2.2.2
        have hstart : Lib.IsBuilder 82 5 gb gb [] (wo.alloc (.cells #[.pointer none, .slice none 0 0] 82)) := by rw [← hgb]; exact Lib.fresh_isBuilder _ _ _
        cases s
        · have hsgn : [] ++ TD = T := by
            rw [← hT, ← hTD, ← hZ]; unfold Txt.text; rw [if_neg (by simpa using hs.symm)]; rfl
          have HS := Lib.hid (And.intro hsgn hstart)
          clear hr hN hs hT hZ hpt hTD hsgn hstart
          have HST : Hid (S2 wo gb [] ps k (wo.alloc (.cells #[.pointer none, .slice none 0 0] 82))) := by
            refine ⟨?_, (Chg.refl _ wo).alloc _⟩
            rw [List.drop_eq_nil_of_le (by have := HP.out.2.2.2.2.2.1; omega)]
            exact HS.out.2
          go_wp2_with fail
          clear hk0
          go_loopw [8] (fun i wr => ∃ j : Nat, i = .int .i64 ((j : Int) - 1) ∧ j ≤ k ∧ Hid (S2 wo gb [] ps j wr)) (fun i _ => (intOf i + 1).toNat)
          case atStart => exact ⟨k, rfl, Nat.le_refl _, HST⟩
          case round =>
            obtain ⟨j, rfl, hjk, HI⟩ := hrel
            obtain ⟨wq, rfl⟩ : ∃ wq : World, wq = wr := ⟨_, rfl⟩
            by_cases hj0 : j = 0
            · subst hj0
              rw [show (((0 : Nat) : Int) - 1) = -1 by rfl]
              go_wp2_with fail
              refine (HF.out.1 [] (by simp) HS.out.1 wq HI.out).mono ?_
              rintro e w9 ⟨rfl, H9⟩
              go_wp2
              go_ret
              exact ⟨rfl, H9.out⟩
            · obtain ⟨i, rfl⟩ : ∃ i, j = i + 1 := ⟨j - 1, by omega⟩
              rw [show (((i + 1 : Nat) : Int) - 1) = (i : Int) by omega]
              obtain ⟨hjT, hrd, hblk, hneww, hlen, hpl, hgb'⟩ := HP.out
              obtain ⟨ad, u, rfl, hu, hcu⟩ := (hrd.chg HI.out.2 (fun q hq _ e => by have := hblk q hq; omega)).at_ (show i < k by omega)
              obtain ⟨pp, hpp, rfl⟩ := strs_at hu
              have hst := HF.out.2 [] (by simp) i pp wq hpp HI.out
              have HST2 := Lib.hid hst
              clear hjT hrd hblk hneww hlen hpl hgb' hu hpp hst hj0
              go_wp2_with fail
              refine HST2.out.mono ?_
              rintro e w9 ⟨⟨ve, rfl⟩, H9⟩
              go_wp2
              go_roundw
              case rel => exact ⟨i, rfl, by omega, H9⟩
              case measure => simp [intOf]
        · have hsgn : [45] ++ TD = T := by
            rw [← hT, ← hTD, ← hZ]; unfold Txt.text; rw [if_pos (by simpa using hs.symm)]; rfl
          have HS := Lib.hid (And.intro hsgn hstart)
          clear hr hN hs hT hZ hpt hTD hsgn hstart
          go_wp2_with fail
          refine (Tryz.Builder_WriteByte gb gb [] 45 _ HS.out.2 (by simp) (by have := hgb; simp; omega)).mono ?_
          rintro e w8 ⟨rfl, hb8, hbel8⟩
          have HST : Hid (S2 wo gb [45] ps k w8) := by
            refine ⟨.inr ?_, ((Chg.refl _ wo).alloc _).trans (chg_below hbel8) (fun _ _ h => h)⟩
            rw [List.drop_eq_nil_of_le (by have := HP.out.2.2.2.2.2.1; omega)]
            exact hb8
          clear hb8 hbel8
          go_wp2_with fail
          clear hk0
          go_loopw [8] (fun i wr => ∃ j : Nat, i = .int .i64 ((j : Int) - 1) ∧ j ≤ k ∧ Hid (S2 wo gb [45] ps j wr)) (fun i _ => (intOf i + 1).toNat)
          case atStart => exact ⟨k, rfl, Nat.le_refl _, HST⟩
          case round =>
            obtain ⟨j, rfl, hjk, HI⟩ := hrel
            obtain ⟨wq, rfl⟩ : ∃ wq : World, wq = wr := ⟨_, rfl⟩
            by_cases hj0 : j = 0
            · subst hj0
              rw [show (((0 : Nat) : Int) - 1) = -1 by rfl]
              go_wp2_with fail
              refine (HF.out.1 [45] (by simp) HS.out.1 wq HI.out).mono ?_
              rintro e w9 ⟨rfl, H9⟩
              go_wp2
              go_ret
              exact ⟨rfl, H9.out⟩
            · obtain ⟨i, rfl⟩ : ∃ i, j = i + 1 := ⟨j - 1, by omega⟩
              rw [show (((i + 1 : Nat) : Int) - 1) = (i : Int) by omega]
              obtain ⟨hjT, hrd, hblk, hneww, hlen, hpl, hgb'⟩ := HP.out
              obtain ⟨ad, u, rfl, hu, hcu⟩ := (hrd.chg HI.out.2 (fun q hq _ e => by have := hblk q hq; omega)).at_ (show i < k by omega)
              obtain ⟨pp, hpp, rfl⟩ := strs_at hu
              have hst := HF.out.2 [45] (by simp) i pp wq hpp HI.out
              have HST2 := Lib.hid hst
              clear hjT hrd hblk hneww hlen hpl hgb' hu hpp hst hj0
              go_wp2_with fail
              refine HST2.out.mono ?_
              rintro e w9 ⟨⟨ve, rfl⟩, H9⟩
              go_wp2
              go_roundw
              case rel => exact ⟨i, rfl, by omega, H9⟩
              case measure => simp [intOf]
      · have hmp : (0 : Int) < (m : Int) := by omega
        have hmp' : 0 < m := by omega
        have hV0 : V ≠ 0 := fun h => hm0 (hwm.pos.2 h)
        have hdw := divWord_any R m d V 1000000000 wo hwm (by omega) (by omega) (by omega)
        obtain ⟨lo, hlo⟩ : ∃ x, V % 1000000000 = x := ⟨_, rfl⟩
        obtain ⟨hi, hhi⟩ : ∃ x, V / 1000000000 = x := ⟨_, rfl⟩
        rw [hlo, hhi] at hdw
        have hlob : lo < 1000000000 := by omega
        have hll := Txt.dec_len_le (u := lo) (k := 9) (by omega) (by omega)
        obtain ⟨tx, htx⟩ : ∃ x, St (decDigits lo) = x := ⟨_, rfl⟩
        have htxs : tx.size = (decDigits lo).length := by rw [← htx, St_size]
        have htx9 : tx.size ≤ 9 := by omega
        have hit := fun W h => itoa_any lo hlob W h
        rw [htx] at hit
        have HD := Lib.hid (And.intro hdw (And.intro hit (And.intro htx (And.intro htxs (And.intro hlo hhi)))))
        have HX := Lib.hid (And.intro hwm (And.intro hst (And.intro hpl (And.intro hpj (And.intro hown hnw)))))
        clear hdw hit htx htxs hlo hhi hwm hst hpl hpj hown hnw hll
        go_wp2_with fail
        refine HD.out.1.mono ?_
        rintro e w3 ⟨l3, g3, rfl, H3⟩
        go_wp2_with fail
        refine (trim_wm _ _ _ l3 w3 H3.out.1 H3.out.2.1 (Nat.le_refl _) (by omega)).mono ?_
        rintro e w4 ⟨T1, rfl, HT1, rfl⟩
        go_wp2_with fail
        refine (HD.out.2.1 w3 (((H0.out.2.2.2.2.2.new H2.out.2.1).new HX.out.2.2.2.2.2).new H3.out.2.2.2.2)).mono ?_
        rintro e w5 ⟨rfl, hn5⟩
        have HN5 := Lib.hid hn5
        have hT1 := HT1.out.1.pos
        rw [H3.out.2.2.1] at hT1
        clear hn5
        by_cases hq : hi = 0
        · obtain rfl : T1 = 0 := hT1.2 hq
          have HQ := Lib.hid hq
          clear hT1 hq
          go_wp2_with (at_builtin; refine wpList_app elemStrs rfl _ _ rfl rfl (own_chg (own_chg (own_chg HX.out.2.2.2.2.1 H3.out.2.2.2.2 (fun _ _ h => h)) HN5.out (fun _ _ h => h)) ((Chg.refl (fun _ => False) w5).alloc (.cells #[.string tx] 9)) (fun _ _ h => h)) rfl (rd_str rfl HD.out.2.2.1.symm) (strs_one _) (by simp only [maxLen]; omega) (by omega) (by have := HX.out.2.2.2.2.2.size; have := H3.out.2.2.2.2.size; have := HN5.out.size; simp; omega) ?_; intro A7 c7 w7 hown7 hg7 hat7; have HA7 := Lib.hid (And.intro hown7 (And.intro hg7 hat7)); clear hown7 hg7 hat7)
          go_roundw
          case rel =>
            refine ⟨_, 0, m, A7, k + 1, c7, hi, ps ++ [decDigits lo], rfl, rfl, by omega, ?_⟩
            have hst := str_last HX.out.2.1 hV0 (by have := HD.out.2.2.2.2.2; have := HQ.out; omega)
            rw [HD.out.2.2.2.2.1, ← HQ.out] at hst
            have hwm3 := HT1.out.1
            rw [H3.out.2.2.1] at hwm3
            exact S1.next HS.out H3.out.2.2.2.1 H3.out.2.2.2.2 hwm3 HN5.out HA7.out.1 HA7.out.2.1 hst (Txt.dec_len_pos _)
          case measure =>
            show (if 0 = 0 then 0 else 9000001 - (k + 1)) < (if m = 0 then 0 else 9000001 - k)
            rw [if_pos rfl, if_neg (by omega)]
            omega
        · have hT1p : (0 : Int) < (T1 : Int) := by
            rcases Nat.eq_zero_or_pos T1 with h | h
            · exact absurd (hT1.1 h) hq
            · omega
          have hT1p' : 0 < T1 := by omega
          have HQ := Lib.hid hq
          clear hT1 hq
          obtain ⟨cn, hcn⟩ : ∃ x, 9 - tx.size = x := ⟨_, rfl⟩
          have hcni : (9 : Int) - ((tx.size : Nat) : Int) = (cn : Int) := by omega
          have hcnb : cn ≤ 9 := by omega
          go_wp2_with fail
          refine (repeat_any cn hcnb w5).mono ?_
          rintro e w6 ⟨rfl, hn6⟩
          obtain ⟨zs, hzs⟩ : ∃ x, St (List.replicate cn 48) = x := ⟨_, rfl⟩
          rw [hzs]
          have hzss : zs.size = cn := by rw [← hzs, St_size]; simp
          have hsz : ¬ 9223372036854775807 < zs.size + tx.size := by omega
          have hcat : zs ++ tx = St (Txt.pad 9 lo) := by
            rw [← hzs, ← HD.out.2.2.1, St_app, ← hcn, HD.out.2.2.2.1, pad9 hlob]
          have H6 := Lib.hid (And.intro hn6 hcat)
          clear hn6 hzs hcn hcat hzss
          go_wp2_with (at_builtin; refine wpList_app elemStrs rfl _ _ rfl rfl (own_chg (own_chg (own_chg (own_chg HX.out.2.2.2.2.1 H3.out.2.2.2.2 (fun _ _ h => h)) HN5.out (fun _ _ h => h)) H6.out.1 (fun _ _ h => h)) ((Chg.refl (fun _ => False) w6).alloc (.cells #[.string (zs ++ tx)] 9)) (fun _ _ h => h)) rfl (rd_str rfl H6.out.2) (strs_one _) (by simp only [maxLen]; omega) (by omega) (by have := HX.out.2.2.2.2.2.size; have := H3.out.2.2.2.2.size; have := HN5.out.size; have := H6.out.1.size; simp; omega) ?_; intro A7 c7 w7 hown7 hg7 hat7; have HA7 := Lib.hid (And.intro hown7 (And.intro hg7 hat7)); clear hown7 hg7 hat7)
          go_roundw
          case rel =>
            refine ⟨_, T1, m, A7, k + 1, c7, hi, ps ++ [Txt.pad 9 lo], rfl, rfl, by have := HT1.out.2; omega, ?_⟩
            have hst := str_more HX.out.2.1 (by have := HD.out.2.2.2.2.2; have := HQ.out; omega)
            rw [HD.out.2.2.2.2.1, HD.out.2.2.2.2.2] at hst
            have hwm3 := HT1.out.1
            rw [H3.out.2.2.1] at hwm3
            exact S1.next HS.out H3.out.2.2.2.1 H3.out.2.2.2.2 hwm3 (HN5.out.new H6.out.1) HA7.out.1 HA7.out.2.1 hst (by rw [Txt.pad_len]; omega)
          case measure =>
            show (if T1 = 0 then 0 else 9000001 - (k + 1)) < (if m = 0 then 0 else 9000001 - k)
            rw [if_neg (by omega), if_neg (by omega)]
            omega
end Go.Proofs.YtmpkaimhjdkheaaGreatDoor

namespace Go.Proofs.YtmpkaimhjdkheaaGreatDoor
set_option linter.unusedVariables false
open Go.RowKit Go.Mem Go.Dig
open Go.Lib (decDigits)

def tpow (k : Nat) : Nat := 10 ^ k
/-- Texts of what is below this have at most 4934 bytes. -/
def dmax : Nat := tpow 4933
theorem pow_93 (k : Nat) : 2 ^ (93 * k) ≤ tpow (28 * k) := by
  unfold tpow
  rw [Nat.pow_mul, Nat.pow_mul]
  exact Nat.pow_le_pow_left (by decide) k
theorem tpow_add (a b : Nat) : tpow (a + b) = tpow a * tpow b := Nat.pow_add 10 a b
theorem powN_two (k m : Nat) (h : 32 * k = m) : powN k = 2 ^ m := by
  subst h
  unfold powN
  rw [Nat.pow_mul]
theorem pow_split (a b m : Nat) (h : a + b = m) : 2 ^ m = 2 ^ a * 2 ^ b := by subst h; exact Nat.pow_add 2 a b
theorem tpow_split (a b m : Nat) (h : a + b = m) : tpow m = tpow a * tpow b := by subst h; exact tpow_add a b
theorem top_gen (K J a m j : Nat) (h1 : 32 * K = m) (h2 : 93 * j + 16 = m) (h3 : 28 * j + 5 = J) : powN K + 10000 ≤ tpow J := by
  rw [powN_two K m h1, pow_split (93 * j) 16 m h2, tpow_split (28 * j) 5 J h3]
  have h := pow_93 j
  have hp : 1 ≤ 2 ^ (93 * j) := Nat.one_le_two_pow
  have e : tpow 5 = 100000 := rfl
  have e2 : (2 : Nat) ^ 16 = 65536 := rfl
  rw [e, e2]
  generalize 2 ^ (93 * j) = Y at *
  generalize tpow (28 * j) = X at *
  omega
theorem top_dmax : topN + 10000 ≤ dmax := top_gen 512 4933 0 16384 176 (by decide) (by decide) (by decide)
theorem text_short' {z : Int} {k : Nat} (h : z.natAbs < tpow k) (hk : 1 ≤ k) : (Txt.text z).length ≤ k + 1 := Txt.text_len hk h
theorem text_short {z : Int} (h : z.natAbs < dmax) : (Txt.text z).length ≤ 5000 := Nat.le_trans (text_short' (k := 4933) h (by decide)) (by decide)
/-- Parse of the text of an integer. -/
theorem wparse_text (z : Int) (hz : z.natAbs < dmax) (w : World) :
    Calls Tryz.prog 11 #[.string (St (Txt.text z))] w fun e w' => ∃ s A n c, e = .returned (.tuple #[.agg #[.bool s, .slice A n c], .int .i64 (rgE z)]) ∧ Hid (WI w' (.agg #[.bool s, .slice A n c]) (rg z) ∧ New w w') :=
  wparse_ok _ _ rfl (by rw [St_size]; exact text_short hz) z (Txt.reads_text z) w

end Go.Proofs.YtmpkaimhjdkheaaGreatDoor

namespace Go.Proofs.YtmpkaimhjdkheaaGreatDoor
set_option linter.unusedVariables false
open Go.RowKit Go.Mem Go.Dig

/-- Two variables that hold integers, in blocks of the call's own. -/
structure PwI (w wr : World) (B g1 g2 : Nat) (s1 : Bool) (A1 : Option Addr) (n1 c1 : Nat) (s2 : Bool) (A2 : Option Addr) (n2 c2 : Nat) (P Q : Nat) : Prop where
  res : Blk wr B 26 #[.bool false, .slice none 0 0]
  b1 : Blk wr g1 26 #[.bool s1, .slice A1 n1 c1]
  b2 : Blk wr g2 26 #[.bool s2, .slice A2 n2 c2]
  r1 : RN wr (.agg #[.bool s1, .slice A1 n1 c1]) (P : Int)
  r2 : RN wr (.agg #[.bool s2, .slice A2 n2 c2]) (Q : Int)
  new : New w wr
theorem pow_lt2 {t K : Nat} (h : t < K) : ((2 ^ t : Nat) : Int).natAbs < 2 ^ K := by
  rw [Int.natAbs_natCast]
  exact Nat.pow_lt_pow_right (by omega) h
theorem pow_big {t : Nat} (h : t ≤ 100000) : ((2 ^ t : Nat) : Int).natAbs < 2 ^ 1000000 := pow_lt2 (K := 1000000) (Nat.lt_of_le_of_lt h (by decide))

set_option maxRecDepth 100000 in
set_option maxHeartbeats 4000000 in
theorem power_any (k : Nat) (hk : k ≤ 100000) (w : World) :
    Calls Tryz.prog 9 #[.int .i64 k] w fun e w' => ∃ v, e = .returned v ∧ RN w' v ((2 ^ k : Nat) : Int) ∧ New w w' := by
  obtain ⟨Z, hZ⟩ : ∃ Z, 2 ^ k = Z := ⟨_, rfl⟩
  rw [hZ]
  have HZ := Lib.hid hZ
  clear hZ
  go_enter Tryz.func9, Tryz.ntmps9
  go_wp2_with fail
  refine Calls.new1 ?_
  intro W1 hb1 hn1 hz1
  refine (of_any 1 W1 (by omega) (by omega)).mono ?_
  rintro e w2 ⟨v2, rfl, ⟨s2, A2, n2, c2, rfl, hs2, hm2⟩, hn2⟩
  have H2 := Lib.hid (And.intro (hb1.chg hn2 (fun h => h)) (And.intro (hn1.new hn2) (And.intro hs2 hm2)))
  clear hb1 hn1 hz1 hs2 hm2 hn2
  go_wp2_with fail
  refine Calls.new1 ?_
  intro W3 hb3 hn3 hz3
  refine (of_any 2 W3 (by omega) (by omega)).mono ?_
  rintro e w4 ⟨v4, rfl, ⟨s4, A4, n4, c4, rfl, hs4, hm4⟩, hn4⟩
  obtain ⟨g1, hg1⟩ : ∃ g, w2.heap.size = g := ⟨_, rfl⟩
  obtain ⟨g2, hg2⟩ : ∃ g, w4.heap.size = g := ⟨_, rfl⟩
  have hPw : PwI w (w4.alloc (.cells #[.bool s4, .slice A4 n4 c4] 26)) w.heap.size g1 g2 s2 A2 n2 c2 s4 A4 n4 c4 1 2 := by
    obtain ⟨hb, hn, hs2, hm2⟩ := H2.out
    have hn34 := hn3.new hn4
    exact ⟨((hb.chg hn34 (fun h => h))).alloc _, by rw [← hg1]; exact (hb3.chg hn4 (fun h => h)).alloc _, by rw [← hg2]; exact Blk.new _ _ _, RN.new ⟨s2, A2, n2, c2, rfl, hs2, hm2⟩ (hn34.alloc _), RN.new ⟨s4, A4, n4, c4, rfl, hs4, hm4⟩ ((Chg.refl _ _).alloc _), (hn.new hn34).alloc _⟩
  have hlt1 : w.heap.size < g1 := by have := H2.out.1.lt; omega
  have hlt2 : g1 < g2 := by have := hb3.lt; have := hn4.size; omega
  have HP := Lib.hid hPw
  clear hb3 hn3 hz3 hs4 hm4 hn4 hPw H2
  go_wp2_with fail
  obtain ⟨W5, hW5⟩ : ∃ W5, w4.alloc (.cells #[.bool s4, .slice A4 n4 c4] 26) = W5 := ⟨_, rfl⟩
  rw [hW5] at HP
  rw [hW5]
  clear hW5 hg1 hg2
  go_loopw [0] (fun v wr => ∃ m p t : Nat, ∃ s1 A1 n1 c1 s2 A2 n2 c2, v = .int .i64 m ∧ m ≤ k ∧ Hid (p + t * m = k ∧ (0 < m → t ≤ k)) ∧ Hid (PwI w wr w.heap.size g1 g2 s1 A1 n1 c1 s2 A2 n2 c2 (2 ^ p) (2 ^ t))) (fun v _ => (intOf v).toNat)
  case atStart => exact ⟨k, 0, 1, s2, A2, n2, c2, s4, A4, n4, c4, rfl, Nat.le_refl _, ⟨by omega, fun h => by omega⟩, HP.out⟩
  case round =>
    clear HP
    obtain ⟨m, p, t, s1, A1, n1, c1, s2, A2, n2, c2, rfl, hmk, HE, HI⟩ := hrel
    have a0 := HI.out.b1.cell 0 (u := .bool s1) rfl
    have a1 := HI.out.b1.cell 1 (u := .slice A1 n1 c1) rfl
    by_cases hm0 : m = 0
    · subst hm0
      have x0 := HI.out.res.cell 0 (u := .bool false) rfl
      have x1 := HI.out.res.cell 1 (u := .slice none 0 0) rfl
      have f0 := HI.out.res.frozen 0
      have f1 := HI.out.res.frozen 1
      go_wp2
      have hI := HI.out
      have hpk : 2 ^ p = Z := by rw [← HZ.out]; have := HE.out.1; rw [Nat.mul_zero, Nat.add_zero] at this; rw [this]
      refine bodyPost_ret (res_c rfl _ rfl (aggN.load (hI.res.set2 _ _))) rfl ⟨_, rfl, ?_, ?_⟩
      · rw [← hpk]; exact hI.r1.store hI.res (noInt_two' _ _ _ _) (Chg.at2 _ _ _ _)
      · exact Chg.owned hI.new (Chg.at2 _ _ _ _) (fun k e => by omega)
    · have hgt : (0 : Int) < (m : Int) := by omega
      have b0 := HI.out.b2.cell 0 (u := .bool s2) rfl
      have b1 := HI.out.b2.cell 1 (u := .slice A2 n2 c2) rfl
      have htk : t ≤ 100000 := by have := HE.out.2 (by omega); omega
      have hpk : p ≤ 100000 := by have := HE.out.1; omega
      obtain ⟨h, hh⟩ : ∃ h, m / 2 = h := ⟨_, rfl⟩
      have hhi : (m : Int) / 2 = (h : Int) := by omega
      by_cases hodd : m % 2 = 1
      · have hoi : ((m : Int) % 2 == 1) = true := by simp; omega
        have HM : Hid (m = 2 * h + 1) := by show _ = _; omega
        have hhm : h < m := by omega
        clear hh hodd
        go_wp2_with fail
        refine (rmul_any _ _ _ _ wr HI.out.r1 HI.out.r2 (pow_big hpk) (pow_big htk)).mono ?_
        rintro e w6 ⟨v6, rfl, ⟨s6, A6, n6, c6, rfl, hs6, hm6⟩, hn6⟩
        have hI := HI.out
        have d0 := (hI.b1.chg hn6 (fun h => h)).cell 0 (u := .bool s1) rfl
        have d1 := (hI.b1.chg hn6 (fun h => h)).cell 1 (u := .slice A1 n1 c1) rfl
        have f0 := (hI.b1.chg hn6 (fun h => h)).frozen 0
        have f1 := (hI.b1.chg hn6 (fun h => h)).frozen 1
        have e0 := (hI.b2.chg hn6 (fun h => h)).cell 0 (u := .bool s2) rfl
        have e1 := (hI.b2.chg hn6 (fun h => h)).cell 1 (u := .slice A2 n2 c2) rfl
        have hne : g2 ≠ g1 := by omega
        have hPw : PwI w ((w6.setCell ⟨g1, 0, none⟩ (.bool s6)).setCell ⟨g1, 1, none⟩ (.slice A6 n6 c6)) w.heap.size g1 g2 s6 A6 n6 c6 s2 A2 n2 c2 (2 ^ (p + t)) (2 ^ t) := by
          have hcs : Chg (fun k => k = g1) w6 ((w6.setCell ⟨g1, 0, none⟩ (.bool s6)).setCell ⟨g1, 1, none⟩ (.slice A6 n6 c6)) := Chg.at2 _ _ _ _
          have hbb := hI.b1.chg hn6 (fun h => h)
          refine ⟨(hI.res.chg hn6 (fun h => h)).chg hcs (by omega), hbb.set2 _ _, (hI.b2.chg hn6 (fun h => h)).chg hcs (by omega), ?_, (hI.r2.new hn6).store hbb (noInt_two' _ _ _ _) hcs, Chg.owned (hI.new.new hn6) hcs (fun k e => by omega)⟩
          refine RN.store ?_ hbb (noInt_two' _ _ _ _) hcs
          rw [Nat.pow_add, Int.natCast_mul]
          exact ⟨s6, A6, n6, c6, rfl, hs6, hm6⟩
        have HP6 := Lib.hid hPw
        clear hI hn6 hs6 hm6 hPw a0 a1 b0 b1
        go_wp2_with fail
        generalize ((w6.setCell ⟨g1, 0, none⟩ (.bool s6)).setCell ⟨g1, 1, none⟩ (.slice A6 n6 c6)) = W7 at *
        refine (rmul_any _ _ _ _ W7 HP6.out.r2 HP6.out.r2 (pow_big htk) (pow_big htk)).mono ?_
        rintro e w8 ⟨v8, rfl, ⟨s8, A8, n8, c8, rfl, hs8, hm8⟩, hn8⟩
        have hI := HP6.out
        have hbb := hI.b2.chg hn8 (fun h => h)
        have d0 := hbb.cell 0 (u := .bool s2) rfl
        have d1 := hbb.cell 1 (u := .slice A2 n2 c2) rfl
        have f0 := hbb.frozen 0
        have f1 := hbb.frozen 1
        have hPw : PwI w ((w8.setCell ⟨g2, 0, none⟩ (.bool s8)).setCell ⟨g2, 1, none⟩ (.slice A8 n8 c8)) w.heap.size g1 g2 s6 A6 n6 c6 s8 A8 n8 c8 (2 ^ (p + t)) (2 ^ (t + t)) := by
          have hcs : Chg (fun k => k = g2) w8 ((w8.setCell ⟨g2, 0, none⟩ (.bool s8)).setCell ⟨g2, 1, none⟩ (.slice A8 n8 c8)) := Chg.at2 _ _ _ _
          refine ⟨(hI.res.chg hn8 (fun h => h)).chg hcs (by omega), (hI.b1.chg hn8 (fun h => h)).chg hcs (by omega), hbb.set2 _ _, (hI.r1.new hn8).store hbb (noInt_two' _ _ _ _) hcs, ?_, Chg.owned (hI.new.new hn8) hcs (fun k e => by omega)⟩
          refine RN.store ?_ hbb (noInt_two' _ _ _ _) hcs
          rw [Nat.pow_add, Int.natCast_mul]
          exact ⟨s8, A8, n8, c8, rfl, hs8, hm8⟩
        have HP8 := Lib.hid hPw
        clear hI hn8 hs8 hm8 hPw hbb
        go_wp2
        go_roundw
        case rel =>
          refine ⟨h, p + t, t + t, s6, A6, n6, c6, s8, A8, n8, c8, rfl, by omega, ⟨?_, fun hp => ?_⟩, HP8.out⟩
          · have h1 := HE.out.1
            rw [HM.out, Nat.mul_add, Nat.mul_one, Nat.mul_left_comm] at h1
            rw [Nat.add_mul]
            omega
          · have h1 := HE.out.1
            rw [HM.out, Nat.mul_add, Nat.mul_one, Nat.mul_left_comm] at h1
            have : t * 1 ≤ t * h := Nat.mul_le_mul_left _ hp
            omega
        case measure => simp [intOf]; omega
      · have hoi : ((m : Int) % 2 == 1) = false := by simp; omega
        have HM : Hid (m = 2 * h) := by show _ = _; omega
        have hhm : h < m := by omega
        clear hh hodd
        go_wp2_with fail
        refine (rmul_any _ _ _ _ wr HI.out.r2 HI.out.r2 (pow_big htk) (pow_big htk)).mono ?_
        rintro e w8 ⟨v8, rfl, ⟨s8, A8, n8, c8, rfl, hs8, hm8⟩, hn8⟩
        have hI := HI.out
        have hbb := hI.b2.chg hn8 (fun h => h)
        have d0 := hbb.cell 0 (u := .bool s2) rfl
        have d1 := hbb.cell 1 (u := .slice A2 n2 c2) rfl
        have f0 := hbb.frozen 0
        have f1 := hbb.frozen 1
        have hPw : PwI w ((w8.setCell ⟨g2, 0, none⟩ (.bool s8)).setCell ⟨g2, 1, none⟩ (.slice A8 n8 c8)) w.heap.size g1 g2 s1 A1 n1 c1 s8 A8 n8 c8 (2 ^ p) (2 ^ (t + t)) := by
          have hcs : Chg (fun k => k = g2) w8 ((w8.setCell ⟨g2, 0, none⟩ (.bool s8)).setCell ⟨g2, 1, none⟩ (.slice A8 n8 c8)) := Chg.at2 _ _ _ _
          refine ⟨(hI.res.chg hn8 (fun h => h)).chg hcs (by omega), (hI.b1.chg hn8 (fun h => h)).chg hcs (by omega), hbb.set2 _ _, (hI.r1.new hn8).store hbb (noInt_two' _ _ _ _) hcs, ?_, Chg.owned (hI.new.new hn8) hcs (fun k e => by omega)⟩
          refine RN.store ?_ hbb (noInt_two' _ _ _ _) hcs
          rw [Nat.pow_add, Int.natCast_mul]
          exact ⟨s8, A8, n8, c8, rfl, hs8, hm8⟩
        have HP8 := Lib.hid hPw
        clear hI hn8 hs8 hm8 hPw hbb a0 a1 b0 b1
        go_wp2
        go_roundw
        case rel =>
          refine ⟨h, p, t + t, s1, A1, n1, c1, s8, A8, n8, c8, rfl, by omega, ⟨?_, fun hp => ?_⟩, HP8.out⟩
          · have h1 := HE.out.1
            rw [HM.out, Nat.mul_left_comm] at h1
            rw [Nat.add_mul]
            omega
          · have h1 := HE.out.1
            rw [HM.out, Nat.mul_left_comm] at h1
            have : t * 1 ≤ t * h := Nat.mul_le_mul_left _ hp
            omega
        case measure => simp [intOf]; omega
end Go.Proofs.YtmpkaimhjdkheaaGreatDoor

namespace Go.Proofs.YtmpkaimhjdkheaaGreatDoor
set_option linter.unusedVariables false
open Go.RowKit Go.Mem Go.Dig

end Go.Proofs.YtmpkaimhjdkheaaGreatDoor

namespace Go.Proofs.YtmpkaimhjdkheaaGreatDoor
set_option linter.unusedVariables false
open Go.RowKit Go.Mem Go.Dig

/-! ### the contracts with hidden facts -/
theorem of_h (z : Int) (W : World) (h1 : -9223372036854775808 ≤ z) (h2 : z ≤ 9223372036854775807) :
    Calls Tryz.prog 7 #[.int .i64 z] W fun e w' => ∃ s A n c, e = .returned (.agg #[.bool s, .slice A n c]) ∧ Hid (RN w' (.agg #[.bool s, .slice A n c]) z ∧ New W w') :=
  (of_any z W h1 h2).mono fun e w' ⟨v, h1, ⟨s, A, n, c, h2, h3, h4⟩, h5⟩ => ⟨s, A, n, c, by rw [h1, h2], ⟨s, A, n, c, rfl, h3, h4⟩, h5⟩
theorem rmul_h (v v' : Value) (x y : Int) (W : World) (hx : RN W v x) (hy : RN W v' y) (bx : x.natAbs < 2 ^ 1000000) (bY : y.natAbs < 2 ^ 1000000) :
    Calls Tryz.prog 10 #[v, v'] W fun e w' => ∃ s A n c, e = .returned (.agg #[.bool s, .slice A n c]) ∧ Hid (RN w' (.agg #[.bool s, .slice A n c]) (x * y) ∧ New W w') :=
  (rmul_any v v' x y W hx hy bx bY).mono fun e w' ⟨v, h1, ⟨s, A, n, c, h2, h3, h4⟩, h5⟩ => ⟨s, A, n, c, by rw [h1, h2], ⟨s, A, n, c, rfl, h3, h4⟩, h5⟩
theorem radd_h (v v' : Value) (x y : Int) (W : World) (hx : RN W v x) (hy : RN W v' y) (bx : x.natAbs < 2 ^ 1000000) (bY : y.natAbs < 2 ^ 1000000) :
    Calls Tryz.prog 19 #[v, v'] W fun e w' => ∃ s A n c, e = .returned (.agg #[.bool s, .slice A n c]) ∧ Hid (RN w' (.agg #[.bool s, .slice A n c]) (x + y) ∧ New W w') :=
  (radd_any v v' x y W hx hy bx bY).mono fun e w' ⟨v, h1, ⟨s, A, n, c, h2, h3, h4⟩, h5⟩ => ⟨s, A, n, c, by rw [h1, h2], ⟨s, A, n, c, rfl, h3, h4⟩, h5⟩
theorem power_h (k : Nat) (hk : k ≤ 100000) (W : World) :
    Calls Tryz.prog 9 #[.int .i64 k] W fun e w' => ∃ s A n c, e = .returned (.agg #[.bool s, .slice A n c]) ∧ Hid (RN w' (.agg #[.bool s, .slice A n c]) ((2 ^ k : Nat) : Int) ∧ New W w') :=
  (power_any k hk W).mono fun e w' ⟨v, h1, ⟨s, A, n, c, h2, h3, h4⟩, h5⟩ => ⟨s, A, n, c, by rw [h1, h2], ⟨s, A, n, c, rfl, h3, h4⟩, h5⟩

theorem pow_le2 (a b : Nat) (h : a ≤ b) : 2 ^ a ≤ 2 ^ b := Nat.pow_le_pow_right (by omega) h
theorem small_big {z : Int} (h1 : -18446744073709551616 < z) (h2 : z < 18446744073709551616) : z.natAbs < 2 ^ 1000000 :=
  Nat.lt_of_lt_of_le (show z.natAbs < 2 ^ 64 by omega) (pow_le2 64 1000000 (by decide))

end Go.Proofs.YtmpkaimhjdkheaaGreatDoor

namespace Go.Proofs.YtmpkaimhjdkheaaGreatDoor
set_option linter.unusedVariables false
open Go.RowKit Go.Mem

def pickI (l : List Int) (i : Nat) (most : Int) : Int := match l[i]? with
  | some z => aroundI z most
  | none => 0
theorem pickI_range (l : List Int) (i : Nat) (most : Int) (h : 1 ≤ most) : 0 ≤ pickI l i most ∧ pickI l i most < most := by
  unfold pickI
  split
  · exact aroundI_range _ _ h
  · omega

set_option maxHeartbeats 1000000 in
theorem pick01_any (A : Option Addr) (n c : Nat) (l : List Int) (hl : ∀ z ∈ l, -9223372036854775808 ≤ z ∧ z ≤ 9223372036854775807) (i : Nat) (most : Int) (hm : 1 ≤ most) (hm2 : most ≤ 1000000000) (w : World) (hr : Rd w A n (is l)) (hn : n ≤ 9223372036854775807) :
    Calls Tryz.prog 8 #[.slice A n c, .int .i64 i, .int .i64 most] w fun e w' => e = .returned (.int .i64 (pickI l i most)) ∧ w = w' := by
  have hll : l.length = n := by have := hr.len; rwa [is_length] at this
  have hng : decide ((i : Int) < 0) = false := by simp
  by_cases h1 : i < n
  · obtain ⟨ad, u, rfl, hu, hcu⟩ := hr.at_ h1
    obtain ⟨z, hz, rfl⟩ := is_at hu
    have hzb := hl z (List.mem_of_getElem? hz)
    have hp : pickI l i most = aroundI z most := by unfold pickI; rw [hz]
    rw [hp]
    have hlt : decide ((n : Int) ≤ (i : Int)) = false := by simp; omega
    have hlt' : decide (n ≤ i) = false := by simp; omega
    have HZ := Lib.hid hzb
    clear hr hl hu hz hll hzb hp
    go_enter Tryz.func8, Tryz.ntmps8
    go_wp2_with fail
    refine (around_any z most w HZ.out.1 HZ.out.2 hm (by omega)).mono ?_
    rintro e w1 ⟨rfl, rfl⟩
    go_wp2
    go_ret
    exact ⟨rfl, rfl⟩
  · have hp : pickI l i most = 0 := by unfold pickI; rw [List.getElem?_eq_none (by omega)]
    rw [hp]
    have hlt : decide ((n : Int) ≤ (i : Int)) = true := by simp; omega
    have hlt' : decide (n ≤ i) = true := by simp; omega
    clear hr hl hll hp
    go_enter Tryz.func8, Tryz.ntmps8
    go_wp2
    go_ret
    exact ⟨rfl, rfl⟩
end Go.Proofs.YtmpkaimhjdkheaaGreatDoor

namespace Go.Proofs.YtmpkaimhjdkheaaGreatDoor
set_option linter.unusedVariables false
open Go.RowKit Go.Mem Go.Dig

/-- A summand of Number. -/
def termI (n : Nat) : Int := ((2 ^ (32 * (n % 7) + n / 7 % 5 * 8) : Nat) : Int) * ((n / 35 % 9 : Nat) - 4) + ((n / 315 % 5 : Nat) - 2)
def numS (l : List Int) (at_ : Nat) : Nat → Int
  | 0 => 0
  | i + 1 => numS l at_ i + termI (pickI l (at_ + 1 + i) 1000000).toNat
/-- refuterref03.Number on plain numbers. -/
def numI (l : List Int) (at_ : Nat) : Int := numS l at_ (1 + (pickI l at_ 5).toNat)
theorem pow_bnd (n : Nat) : 2 ^ (32 * (n % 7) + n / 7 % 5 * 8) ≤ 2 ^ 224 := Nat.pow_le_pow_right (by omega) (by omega)
theorem abs_mul_small {P : Nat} {x : Int} (hP : P ≤ 2 ^ 224) (h1 : -4 ≤ x) (h2 : x ≤ 4) : ((P : Int) * x).natAbs ≤ 2 ^ 226 := by
  rw [Int.natAbs_mul]
  have : x.natAbs ≤ 4 := by omega
  have e := Nat.mul_le_mul hP this
  have e2 : (2 : Nat) ^ 226 = 2 ^ 224 * 4 := by decide
  rw [e2]
  simpa using e
theorem termI_bnd (n : Nat) : (termI n).natAbs ≤ 2 ^ 227 := by
  unfold termI
  have h := abs_mul_small (x := ((n / 35 % 9 : Nat) : Int) - 4) (pow_bnd n) (by omega) (by omega)
  have h2 : (((n / 315 % 5 : Nat) : Int) - 2).natAbs ≤ 2 := by omega
  have e : (2 : Nat) ^ 227 = 2 ^ 226 + 2 ^ 226 := by decide
  have e2 : 2 ≤ (2 : Nat) ^ 226 := by decide
  generalize (((2 ^ (32 * (n % 7) + n / 7 % 5 * 8) : Nat) : Int) * (((n / 35 % 9 : Nat) : Int) - 4)) = u at *
  generalize (((n / 315 % 5 : Nat) : Int) - 2) = v at *
  rw [e]
  generalize (2 : Nat) ^ 226 = B at *
  omega
theorem numS_bnd (l : List Int) (at_ i : Nat) : (numS l at_ i).natAbs ≤ i * 2 ^ 227 := by
  induction i with
  | zero => simp [numS]
  | succ i ih =>
    have h := termI_bnd (pickI l (at_ + 1 + i) 1000000).toNat
    rw [numS]
    generalize termI (pickI l (at_ + 1 + i) 1000000).toNat = t at *
    generalize (2 : Nat) ^ 227 = B at *
    rw [Nat.add_mul, Nat.one_mul]
    omega
theorem numI_bnd (l : List Int) (at_ : Nat) : (numI l at_).natAbs < 2 ^ 230 := by
  have h := numS_bnd l at_ (1 + (pickI l at_ 5).toNat)
  have h2 := pickI_range l at_ 5 (by omega)
  have h3 : (1 + (pickI l at_ 5).toNat) * 2 ^ 227 ≤ 5 * 2 ^ 227 := Nat.mul_le_mul_right _ (by omega)
  have e : 5 * (2 : Nat) ^ 227 < 2 ^ 230 := by decide
  unfold numI
  omega
theorem big_of {z : Int} {k m : Nat} (h : z.natAbs ≤ 2 ^ k) (hk : k < m) : z.natAbs < 2 ^ m := Nat.lt_of_le_of_lt h (Nat.pow_lt_pow_right (by omega) hk)
theorem numS_big (l : List Int) (at_ i : Nat) (hi : i ≤ 8) : (numS l at_ i).natAbs < 2 ^ 1000000 := by
  have h := numS_bnd l at_ i
  have h2 : i * 2 ^ 227 ≤ 8 * 2 ^ 227 := Nat.mul_le_mul_right _ hi
  have e : 8 * (2 : Nat) ^ 227 = 2 ^ 230 := by decide
  exact big_of (k := 230) (m := 1000000) (by rw [← e]; exact Nat.le_trans h h2) (by decide)

/-- What Number's loop holds. -/
def NmW (w : World) (g4 g5 : Nat) (z : Int) (wr : World) : Prop :=
  ∃ s A n c, Blk wr g5 26 #[.bool s, .slice A n c] ∧ RN wr (.agg #[.bool s, .slice A n c]) z ∧ Blk wr g4 26 #[.bool false, .slice none 0 0] ∧ New w wr
theorem noInt2' (s : Bool) (A : Option Addr) (n c : Nat) : NoInt (#[Value.bool s, Value.slice A n c] : Array Value).toList := fun k z h => by simp at h
theorem NmW.put {w wr w6 : World} {g4 g5 : Nat} {z z2 : Int} (h : NmW w g4 g5 z wr) (hn : New wr w6) {s A n c} (h6 : RN w6 (.agg #[.bool s, .slice A n c]) z2) (hg : w.heap.size ≤ g5) (hne : g4 ≠ g5) :
    NmW w g4 g5 z2 ((w6.setCell ⟨g5, 0, none⟩ (.bool s)).setCell ⟨g5, 1, none⟩ (.slice A n c)) := by
  obtain ⟨s0, A0, n0, c0, h1, h2, h3, h4⟩ := h
  have hb := h1.chg hn (fun h => h)
  refine ⟨s, A, n, c, hb.set2 _ _, h6.store hb (noInt2' _ _ _ _) (Chg.at2 _ _ _ _), ((h3.chg hn (fun h => h)).far (p := ⟨g5, 0, none⟩) hne _).far (p := ⟨g5, 1, none⟩) hne _, Chg.owned (h4.new hn) (Chg.at2 _ _ _ _) (fun k e => by omega)⟩

set_option maxRecDepth 100000 in
set_option maxHeartbeats 4000000 in
theorem number_any (A : Option Addr) (n c : Nat) (l : List Int) (hl : ∀ z ∈ l, -9223372036854775808 ≤ z ∧ z ≤ 9223372036854775807) (at_ : Nat) (hat : at_ ≤ 1000) (w : World) (hr : Rd w A n (is l)) (hn : n ≤ 9223372036854775807) :
    Calls Tryz.prog 5 #[.slice A n c, .int .i64 (at_ : Int)] w fun e w' => ∃ s A n c, e = .returned (.agg #[.bool s, .slice A n c]) ∧ Hid (RN w' (.agg #[.bool s, .slice A n c]) (numI l at_) ∧ New w w') := by
  obtain ⟨r5, hr5⟩ : ∃ x, pickI l at_ 5 = x := ⟨_, rfl⟩
  have h5 := pickI_range l at_ 5 (by omega)
  rw [hr5] at h5
  obtain ⟨p5, rfl⟩ : ∃ p : Nat, r5 = p := ⟨r5.toNat, by omega⟩
  have hN : numI l at_ = numS l at_ (1 + p5) := by unfold numI; rw [hr5]; simp
  rw [hN]
  have hpk := fun (i : Nat) (most : Int) (h1 : 1 ≤ most) (h2 : most ≤ 1000000000) W (hn : New w W) => pick01_any A n c l hl i most h1 h2 W (hr.new hn) ‹_›
  have HP := Lib.hid (And.intro hpk hr5)
  clear hpk hr5 hr hl hN
  have hp5 : p5 ≤ 4 := by omega
  go_enter Tryz.func5, Tryz.ntmps5
  go_wp2_with fail
  refine Code.new2 ?_
  intro W hb4 hb5 hnW hzW
  obtain ⟨g4, hg4⟩ : ∃ x, w.heap.size = x := ⟨_, rfl⟩
  obtain ⟨g5, hg5⟩ : ∃ x, w.heap.size + 1 = x := ⟨_, rfl⟩
  rw [hg4] at hb4
  rw [hg5] at hb5
  have hS : NmW w g4 g5 0 W := ⟨_, _, _, _, hb5, RN.zero W, hb4, hnW⟩
  have HG := Lib.hid (And.intro hg4 hg5)
  have HS := Lib.hid hS
  simp only [hg5]
  simp only [hg4]
  clear hb4 hb5 hnW hzW hg4 hg5 hS
  go_loopw [6, 7, 8] (fun i _ _ wr => ∃ k : Nat, i = .int .i64 (k : Int) ∧ k ≤ 1 + p5 ∧ Hid (NmW w g4 g5 (numS l at_ k) wr)) (fun i _ _ _ => 1 + p5 - (intOf i).toNat)
  case atStart => exact ⟨0, rfl, by omega, HS.out⟩
  case round =>
    obtain ⟨k, rfl, hk, HI⟩ := hrel
    obtain ⟨wo, rfl⟩ : ∃ wo : World, wo = wr := ⟨_, rfl⟩
    obtain ⟨s0, A0, n0, c0, hb5, hrn, hb4, hnw⟩ := HI.out
    have k50 := hb5.cell 0 (u := .bool s0) rfl
    have k51 := hb5.cell 1 (u := .slice A0 n0 c0) rfl
    have hpk := HP.out.1 at_ 5 (by omega) (by omega) wo hnw
    rw [HP.out.2] at hpk
    have HPK := Lib.hid hpk
    have HX := Lib.hid (And.intro hb5 (And.intro hrn (And.intro hb4 hnw)))
    clear hb5 hrn hb4 hnw hpk
    by_cases hlt : k < 1 + p5
    · obtain ⟨j, hj⟩ : ∃ j, at_ + 1 + k = j := ⟨_, rfl⟩
      have hji : (at_ : Int) + 1 + (k : Int) = (j : Int) := by omega
      have hpk2 := HP.out.1 j 1000000 (by omega) (by omega) wo HX.out.2.2.2
      have hpr := pickI_range l j 1000000 (by omega)
      obtain ⟨m, hm⟩ : ∃ m : Nat, pickI l j 1000000 = m := ⟨(pickI l j 1000000).toNat, by omega⟩
      rw [hm] at hpk2 hpr
      have hz : numS l at_ (k + 1) = numS l at_ k + termI m := by rw [numS, hj, hm]; simp
      obtain ⟨a7, ha7⟩ : ∃ x, m % 7 = x := ⟨_, rfl⟩
      obtain ⟨q7, hq7⟩ : ∃ x, m / 7 = x := ⟨_, rfl⟩
      obtain ⟨b5, hb5⟩ : ∃ x, q7 % 5 = x := ⟨_, rfl⟩
      obtain ⟨pw, hpw⟩ : ∃ x, 32 * a7 + b5 * 8 = x := ⟨_, rfl⟩
      obtain ⟨q35, hq35⟩ : ∃ x, m / 35 = x := ⟨_, rfl⟩
      obtain ⟨c9, hc9⟩ : ∃ x, q35 % 9 = x := ⟨_, rfl⟩
      obtain ⟨q315, hq315⟩ : ∃ x, m / 315 = x := ⟨_, rfl⟩
      obtain ⟨d5, hd5⟩ : ∃ x, q315 % 5 = x := ⟨_, rfl⟩
      obtain ⟨e4, he4⟩ : ∃ x : Int, (c9 : Int) - 4 = x := ⟨_, rfl⟩
      obtain ⟨e2, he2⟩ : ∃ x : Int, (d5 : Int) - 2 = x := ⟨_, rfl⟩
      have htm : termI m = ((2 ^ pw : Nat) : Int) * e4 + e2 := by
        unfold termI
        rw [ha7, hq7, hb5, hpw, hq35, hc9, hq315, hd5, he4, he2]
      have hpwb : pw ≤ 224 := by omega
      have hmb : m < 1000000 := by omega
      have he4b : -4 ≤ e4 ∧ e4 ≤ 4 := by omega
      have he2b : -2 ≤ e2 ∧ e2 ≤ 2 := by omega
      have i1 : (m : Int) % 7 = (a7 : Int) := by omega
      have i2 : (m : Int) / 7 = (q7 : Int) := by omega
      have i3 : (q7 : Int) % 5 = (b5 : Int) := by omega
      have i4 : 32 * (a7 : Int) + (b5 : Int) * 8 = (pw : Int) := by omega
      have i5 : (m : Int) / 35 = (q35 : Int) := by omega
      have i6 : (q35 : Int) % 9 = (c9 : Int) := by omega
      have i7 : (m : Int) / 315 = (q315 : Int) := by omega
      have i8 : (q315 : Int) % 5 = (d5 : Int) := by omega
      have ab : a7 ≤ 6 ∧ b5 ≤ 4 ∧ c9 ≤ 8 ∧ d5 ≤ 4 ∧ q7 ≤ 1000000 ∧ q35 ≤ 1000000 ∧ q315 ≤ 1000000 := by omega
      have ab1 : a7 ≤ 6 := ab.1
      have ab2 : b5 ≤ 4 := ab.2.1
      have ab3 : c9 ≤ 8 := ab.2.2.1
      have HZ := Lib.hid (And.intro hz (And.intro htm (And.intro hpk2 (And.intro i7 (And.intro i8 he2)))))
      clear hz htm hpk2 hpr hm ha7 hq7 hb5 hpw hq35 hc9 hq315 hd5 he2 i7 i8 hj ab
      go_wp2_with fail
      refine HPK.out.mono ?_
      rintro e w1 ⟨rfl, rfl⟩
      go_wp2_with fail
      refine HZ.out.2.2.1.mono ?_
      rintro e w1 ⟨rfl, rfl⟩
      go_wp2_with fail
      refine (power_h pw (by omega) wo).mono ?_
      rintro e w2 ⟨s2, A2, n2, c2, rfl, H2⟩
      go_wp2_with fail
      refine (of_h e4 w2 (by omega) (by omega)).mono ?_
      rintro e w3 ⟨s3, A3, n3, c3, rfl, H3⟩
      go_wp2_with fail
      refine (rmul_h _ _ _ _ w3 (H2.out.1.new H3.out.2) H3.out.1 (pow_big (by omega)) (small_big (by omega) (by omega))).mono ?_
      rintro e w4 ⟨s4, A4, n4, c4, rfl, H4⟩
      clear i1 i2 i3 i4 i5 i6 he4
      go_upto_region 7 with fail
      refine Code.new1 ?_
      intro W5 hb8 hn5 hz5
      obtain ⟨g8, hg8⟩ : ∃ x, w4.heap.size = x := ⟨_, rfl⟩
      rw [hg8] at hb8
      simp only [hg8]
      have hn05 : New wo W5 := ((H2.out.2.new H3.out.2).new H4.out.2).new hn5
      have hc80 := hb8.cell 0 (u := .bool s4) rfl
      have hc81 := hb8.cell 1 (u := .slice A4 n4 c4) rfl
      have hb55 := HX.out.1.chg hn05 (fun h => h)
      have hc50 := hb55.cell 0 (u := .bool s0) rfl
      have hc51 := hb55.cell 1 (u := .slice A0 n0 c0) rfl
      have hf50 := hb55.frozen 0
      have hf51 := hb55.frozen 1
      have hg58 : g5 < g8 := by
        have h1 := (HX.out.1.chg ((H2.out.2.new H3.out.2).new H4.out.2) (fun h => h)).lt
        omega
      obtain ⟨hz, htm, _, i7, i8, he2⟩ := HZ.out
      have j7 : (m : Int).tdiv 315 = (q315 : Int) := by rw [Int.tdiv_eq_ediv_of_nonneg (by omega), i7]
      have j8 : (q315 : Int).tmod 5 = (d5 : Int) := by rw [Int.tmod_eq_emod_of_nonneg (by omega), i8]
      have j10 : IntKind.i64.wrap (q315 : Int) = (q315 : Int) := IntWalk.i64_in _ (by omega)
      have j9 : IntKind.i64.wrap ((d5 : Int) - 2) = e2 := by rw [he2]; exact IntWalk.i64_in _ (by omega)
      have hcof : ∀ W', New W5 W' → Calls Tryz.prog 7 #[.int .i64 e2] W' fun e w' => ∃ s A n c, e = .returned (.agg #[.bool s, .slice A n c]) ∧ Hid (RN w' (.agg #[.bool s, .slice A n c]) e2) ∧ Hid (New W5 w') := fun W' h =>
        (of_h e2 W' (by omega) (by omega)).mono fun e w' ⟨s, A, n, c, h1, h2⟩ => ⟨s, A, n, c, h1, h2.out.1, h.new h2.out.2⟩
      have hca1 : ∀ W' v, New W5 W' → RN W' v e2 → Calls Tryz.prog 19 #[.agg #[.bool s4, .slice A4 n4 c4], v] W' fun e w' => ∃ s A n c, e = .returned (.agg #[.bool s, .slice A n c]) ∧ Hid (RN w' (.agg #[.bool s, .slice A n c]) (termI m)) ∧ Hid (New W5 w') := fun W' v h hv => by
        have hpb := pow_big (t := pw) (by omega)
        have := radd_h _ v _ _ W' ((H4.out.1.new hn5).new h) hv (big_of (k := 226) (m := 1000000) (abs_mul_small (Nat.pow_le_pow_right (by omega) hpwb) he4b.1 he4b.2) (by decide)) (small_big (by omega) (by omega))
        rw [← htm] at this
        exact this.mono fun e w' ⟨s, A, n, c, h1, h2⟩ => ⟨s, A, n, c, h1, h2.out.1, h.new h2.out.2⟩
      have hca2 : ∀ W' v, New W5 W' → RN W' v (termI m) → Calls Tryz.prog 19 #[.agg #[.bool s0, .slice A0 n0 c0], v] W' fun e w' => ∃ s A n c, e = .returned (.agg #[.bool s, .slice A n c]) ∧ Hid (RN w' (.agg #[.bool s, .slice A n c]) (numS l at_ (k + 1))) ∧ Hid (New W5 w') := fun W' v h hv => by
        have := radd_h _ v _ _ W' ((HX.out.2.1.new hn05).new h) hv (numS_big l at_ k (by omega)) (big_of (k := 227) (m := 1000000) (termI_bnd m) (by decide))
        rw [← hz] at this
        exact this.mono fun e w' ⟨s, A, n, c, h1, h2⟩ => ⟨s, A, n, c, h1, h2.out.1, h.new h2.out.2⟩
      have HCA := Lib.hid (And.intro hcof (And.intro hca1 hca2))
      have HBN := Lib.hid (And.intro hb55 (And.intro hb8 hn05))
      clear hz htm i7 i8 he2 hcof hca1 hca2 hb55 hb8 hn05 hn5 hz5 hg8 k50 k51 HPK HZ
      go_region_with
        (first
          | (go_at_call 7; (with_reducible refine (HCA.out.1 _ ?_).mono ?_); exact (Chg.refl _ _).drew; rintro e w6 ⟨s6, A6, n6, c6, rfl, HR6, HN6⟩; have hd50 := HN6.out.cell hc50 (fun h => h); have hd51 := HN6.out.cell hc51 (fun h => h); have hd80 := HN6.out.cell hc80 (fun h => h); have hd81 := HN6.out.cell hc81 (fun h => h))
          | (go_at_call 19; (with_reducible refine (HCA.out.2.1 _ _ HN6.out HR6.out).mono ?_); rintro e w7 ⟨s7, A7, n7, c7, rfl, HR7, HN7⟩; have he50 := HN7.out.cell hc50 (fun h => h); have he51 := HN7.out.cell hc51 (fun h => h); have he80 := HN7.out.cell hc80 (fun h => h); have he81 := HN7.out.cell hc81 (fun h => h))
          | (go_at_call 19; (with_reducible refine (HCA.out.2.2 _ _ HN7.out HR7.out).mono ?_); rintro e w8 ⟨s8, A8, n8, c8, rfl, HR8, HN8⟩; have hi50 := HN8.out.cell hc50 (fun h => h); have hi51 := HN8.out.cell hc51 (fun h => h); have hi80 := HN8.out.cell hc80 (fun h => h); have hi81 := HN8.out.cell hc81 (fun h => h); have hj50 := (HBN.out.1.chg HN8.out (fun h => h)).frozen 0; have hj51 := (HBN.out.1.chg HN8.out (fun h => h)).frozen 1))
      all_goals
        clear hc50 hc51 hc80 hc81 hd50 hd51 hd80 hd81 he50 he51 he80 he81 hi50 hi51 hi80 hi81 hf50 hf51
        go_wp2
        go_roundw
        case rel => exact ⟨k + 1, by go_num, by omega, NmW.put HI.out (HBN.out.2.2.new HN8.out) HR8.out (by have := HG.out; omega) (by have := HG.out; omega)⟩
        case measure => simp [intOf]; omega
    · obtain rfl : 1 + p5 = k := by omega
      have hge : decide ((((1 + p5 : Nat)) : Int) < 1 + (p5 : Int)) = false := by simp
      have hb4 := HX.out.2.2.1
      have k40 := hb4.cell 0 rfl
      have k41 := hb4.cell 1 rfl
      have f40 := hb4.frozen 0
      have f41 := hb4.frozen 1
      clear hb4
      go_wp2_with fail
      refine HPK.out.mono ?_
      rintro e w1 ⟨rfl, rfl⟩
      go_wp2
      obtain ⟨hb5, hrn, hb4, hnw⟩ := HX.out
      refine bodyPost_ret (res_c rfl _ rfl (aggN.load (hb4.set2 _ _))) rfl ⟨s0, A0, n0, c0, rfl, hrn.store hb4 (noInt2' _ _ _ _) (Chg.at2 _ _ _ _), ?_⟩
      exact Chg.owned hnw (Chg.at2 _ _ _ _) (fun k e => by have := HG.out; omega)
end Go.Proofs.YtmpkaimhjdkheaaGreatDoor

namespace Go.Proofs.YtmpkaimhjdkheaaGreatDoor
open Go.RowKit Go.Shelf Go.Mem Go.Pure

def orderL : List UInt8 := [111, 114, 100, 101, 114]
/-- What a round mixes into a half. -/
def partN (seed : Int) (h : Nat) (i r : Nat) : Nat := (sumI orderL [wrap64 seed, (i : Int), (r : Int)]).toNat % 2 ^ h
theorem partN_lt (seed : Int) (h i r : Nat) : partN seed h i r < 2 ^ h := Nat.mod_lt _ (Nat.pow_pos (by omega))

set_option maxHeartbeats 1000000 in
theorem rounds_any (w : World) : Calls Tryz.prog 115 #[] w fun e w' => e = .returned (.agg #[.int .i64 0, .int .i64 1, .int .i64 2, .int .i64 3]) ∧ New w w' := by
  go_enter Tryz.func115, Tryz.ntmps115
  go_wp2
  refine bodyPost_ret (results_cell_row rfl _ _ w.heap.size _ _ (0, 0) _ rfl (heap_alloc_new _ _) Tryz.underlying164 rfl (by kernel_rfl)) rfl ?_
  exact ⟨rfl, (Chg.refl _ w).alloc _⟩

/-- h is the half for n numbers. -/
def IsHalf (n h : Nat) : Prop := 1 ≤ h ∧ n ≤ 4 ^ h ∧ ∀ j, 1 ≤ j → j < h → 4 ^ j < n
theorem IsHalf.le {n h : Nat} (H : IsHalf n h) (hn : n ≤ 1099511627776) : h ≤ 20 := by
  rcases Nat.lt_or_ge 20 h with h1 | h1
  · have := H.2.2 20 (by omega) h1
    omega
  · exact h1
theorem IsHalf.uniq {n h g : Nat} (H : IsHalf n h) (G : IsHalf n g) : h = g := by
  rcases Nat.lt_trichotomy h g with h1 | h1 | h1
  · have := G.2.2 h H.1 h1; have := H.2.1; omega
  · exact h1
  · have := H.2.2 g G.1 h1; have := G.2.1; omega
theorem four_pow (h : Nat) : 4 ^ h = 2 ^ (2 * h) := by rw [Nat.pow_mul]

set_option maxHeartbeats 1000000 in
theorem newMixer_any (seed : Int) (n : Nat) (hn : n ≤ 1099511627776) (w : World) : Calls Tryz.prog 97 #[.int .u64 seed, .int .i64 n] w fun e w' => ∃ h : Nat, e = .returned (.agg #[.int .u64 seed, .int .i64 h]) ∧ IsHalf n h ∧ New w w' := by
  go_enter Tryz.func97, Tryz.ntmps97
  go_wp2
  go_loopw [5] (fun i wr => ∃ h : Nat, 1 ≤ h ∧ h ≤ 20 ∧ i = .int .i64 h ∧ (∀ j, 1 ≤ j → j < h → 4 ^ j < n) ∧ wr = w.alloc (.cells #[.int .u64 0, .int .i64 0] 142)) (fun i _ => 21 - (intOf i).toNat)
  case atStart => exact ⟨1, by omega, by omega, rfl, fun j h1 h2 => by omega, rfl⟩
  case round =>
    obtain ⟨h, h1, h20, rfl, hj, rfl⟩ := hrel
    have HJ := Lib.hid hj
    clear hj
    obtain ⟨q, hq⟩ : ∃ q, 4 ^ h = q := ⟨_, rfl⟩
    have hq2 : 2 ^ (2 * h) = q := by rw [← four_pow, hq]
    have hqb : q ≤ 1099511627776 := by rw [← hq]; exact Nat.le_trans (Nat.pow_le_pow_right (by omega) h20) (by decide)
    have hwq : wrap64 (2 ^ (2 * h)) = (q : Int) := by
      have e : (2 : Int) ^ (2 * h) = ((2 ^ (2 * h) : Nat) : Int) := by simp
      rw [e, hq2]
      unfold wrap64
      omega
    have HQ := Lib.hid hq
    clear hq hq2
    by_cases hlt : q < n
    · have hlti : (q : Int) < (n : Int) := by omega
      have hh19 : h ≤ 19 := by
        rcases Nat.lt_or_ge 19 h with g | g
        · obtain rfl : h = 20 := by omega
          have := HQ.out
          omega
        · exact g
      go_wp2
      go_roundw
      case rel => exact ⟨h + 1, by omega, by omega, by go_num, fun j h1 h2 => by
        rcases Nat.lt_or_ge j h with g | g
        · exact HJ.out j h1 g
        · obtain rfl : j = h := by omega
          rw [HQ.out]; exact hlt, trivial⟩
      case measure => simp [intOf]; omega
    · have hlti : decide ((q : Int) < (n : Int)) = false := by simp; omega
      go_wp2
      refine bodyPost_ret (results_cell_row rfl _ _ w.heap.size _ _ (0, 0) _ rfl (heap_alloc_new _ _) Tryz.underlying142 rfl (by kernel_rfl)) rfl ?_
      exact ⟨h, rfl, ⟨h1, by rw [HQ.out]; omega, HJ.out⟩, (Chg.refl _ w).alloc _⟩

theorem wrapEq (x : Int) : IntKind.i64.wrap x = wrap64 x := by rw [IntKind.wrap_i64]; unfold wrap64; omega

theorem mask_eq {h : Nat} (hh : h ≤ 20) : IntKind.u64.wrap (IntKind.u64.wrap (2 ^ h) - 1) = ((2 ^ h - 1 : Nat) : Int) := by
  have h1 : 2 ^ h ≤ 1048576 := Nat.le_trans (Nat.pow_le_pow_right (by omega) hh) (by decide)
  have h0 : 0 < 2 ^ h := Nat.pow_pos (by omega)
  have e : (2 : Int) ^ h = ((2 ^ h : Nat) : Int) := by simp
  rw [e, IntKind.wrap_u64, IntKind.wrap_u64]
  omega
theorem part_eq {seed : Int} {i r S h : Nat} (hS : (S : Int) = sumI orderL [wrap64 seed, (i : Int), (r : Int)]) (hlt : S < 18446744073709551616) (hh : h ≤ 20) :
    wrap64 (bits .and .u64 (S : Int) (IntKind.u64.wrap (IntKind.u64.wrap (2 ^ h) - 1))) = (partN seed h i r : Int) := by
  have h1 : 2 ^ h ≤ 1048576 := Nat.le_trans (Nat.pow_le_pow_right (by omega) hh) (by decide)
  rw [mask_eq hh, u64_and_nat _ _ hlt (by omega), Nat.and_two_pow_sub_one_eq_mod]
  unfold partN
  rw [← hS, Int.toNat_natCast]
  have h0 : 0 < 2 ^ h := Nat.pow_pos (by omega)
  have := Nat.mod_lt S h0
  unfold wrap64
  omega

set_option maxHeartbeats 2000000 in
theorem part_any (seed : Int) (h : Nat) (hh : h ≤ 20) (i r : Nat) (w : World) : Calls Tryz.prog 116 #[.agg #[.int .u64 seed, .int .i64 h], .int .i64 i, .int .i64 r] w fun e w' => e = .returned (.int .i64 (partN seed h i r)) ∧ New w w' := by
  go_enter Tryz.func116, Tryz.ntmps116
  go_wp2_with fail
  have hsum := fun (W : World) (hr : Rd W (some ⟨w.heap.size + 1, 0, none⟩) 3 (is [IntKind.i64.wrap seed, (i : Int), (r : Int)])) (hW : New w W) (hb : W.cell? ⟨w.heap.size, 1, none⟩ = some (.int .i64 h)) =>
    (sum_any ⟨#[111, 114, 100, 101, 114]⟩ (by decide) _ 3 3 [IntKind.i64.wrap seed, (i : Int), (r : Int)] W hr (by omega)).mono (R' := fun e w' => ∃ S : Nat, e = .returned (.int .u64 (S : Int)) ∧ Hid ((S : Int) = sumI orderL [wrap64 seed, (i : Int), (r : Int)]) ∧ S < 18446744073709551616 ∧ Hid (New w w') ∧ w'.cell? ⟨w.heap.size, 1, none⟩ = some (.int .i64 h)) fun e w' ⟨h1, h2⟩ => by
      have hrg := sumI_range' orderL [wrap64 seed, (i : Int), (r : Int)]
      refine ⟨(sumI orderL [wrap64 seed, (i : Int), (r : Int)]).toNat, ?_, ?_, by omega, hW.new h2, h2.cell hb (fun h => h)⟩
      · rw [h1, wrapEq, Int.toNat_of_nonneg hrg.1]; rfl
      · exact Int.toNat_of_nonneg hrg.1
  have hb0 : Blk (w.alloc (.cells #[.int .u64 seed, .int .i64 h] 142)) w.heap.size 142 #[.int .u64 seed, .int .i64 h] := Blk.new _ _ _
  have hR := Rd.lit (w := w.alloc (.cells #[.int .u64 seed, .int .i64 h] 142)) (e := 3) (is [IntKind.i64.wrap seed, (i : Int), (r : Int)]) (n := 3) rfl
  rw [World.size_alloc] at hR
  have hcall := hsum ((w.alloc (.cells #[.int .u64 seed, .int .i64 h] 142)).alloc (.cells #[.int .i64 (IntKind.i64.wrap seed), .int .i64 (i : Int), .int .i64 (r : Int)] 3)).drew
    (hR.new ((Chg.refl _ _).drew)) ((((Chg.refl _ w).alloc _).alloc _).drew) (((hb0.alloc _).drew).cell 1 rfl)
  have HC := Lib.hid hcall
  clear hsum hb0 hR hcall
  go_region_with (first
    | (go_at_call 87; refine HC.out.mono ?_; rintro e w1 ⟨S, rfl, HS, hSlt, HN1, hc1⟩))
  all_goals
    go_wp2
    go_ret
    refine ⟨ret_int ?_, HN1.out⟩
    rw [← part_eq HS.out hSlt hh, wrapEq]
end Go.Proofs.YtmpkaimhjdkheaaGreatDoor

namespace Go.Proofs.YtmpkaimhjdkheaaGreatDoor
open Go.RowKit Go.Shelf Go.Mem Go.Pure

theorem i64_xor_nat (a b : Nat) (ha : a < 9223372036854775808) (hb : b < 9223372036854775808) : bits .xor .i64 (a : Int) (b : Int) = ((a ^^^ b : Nat) : Int) := by
  show IntKind.i64.wrap ((BitVec.ofInt 64 (a : Int) ^^^ BitVec.ofInt 64 (b : Int)).toNat : Int) = _
  rw [BitVec.ofInt_natCast, BitVec.ofInt_natCast, BitVec.toNat_xor, BitVec.toNat_ofNat, BitVec.toNat_ofNat, Nat.mod_eq_of_lt (by omega), Nat.mod_eq_of_lt (by omega), IntKind.wrap_i64]
  have := Nat.xor_lt_two_pow (n := 63) ha hb
  omega
theorem i64_and_nat (a b : Nat) (ha : a < 9223372036854775808) (hb : b < 9223372036854775808) : bits .and .i64 (a : Int) (b : Int) = ((a &&& b : Nat) : Int) := by
  show IntKind.i64.wrap ((BitVec.ofInt 64 (a : Int) &&& BitVec.ofInt 64 (b : Int)).toNat : Int) = _
  rw [BitVec.ofInt_natCast, BitVec.ofInt_natCast, BitVec.toNat_and, BitVec.toNat_ofNat, BitVec.toNat_ofNat, Nat.mod_eq_of_lt (by omega), Nat.mod_eq_of_lt (by omega), IntKind.wrap_i64]
  have := Nat.and_lt_two_pow (n := 63) a hb
  omega
theorem i64_or_nat (a b : Nat) (ha : a < 9223372036854775808) (hb : b < 9223372036854775808) : bits .or .i64 (a : Int) (b : Int) = ((a ||| b : Nat) : Int) := by
  show IntKind.i64.wrap ((BitVec.ofInt 64 (a : Int) ||| BitVec.ofInt 64 (b : Int)).toNat : Int) = _
  rw [BitVec.ofInt_natCast, BitVec.ofInt_natCast, BitVec.toNat_or, BitVec.toNat_ofNat, BitVec.toNat_ofNat, Nat.mod_eq_of_lt (by omega), Nat.mod_eq_of_lt (by omega), IntKind.wrap_i64]
  have := Nat.or_lt_two_pow (n := 63) ha hb
  omega
theorem side_le {h : Nat} (hh : h ≤ 20) : 2 ^ h ≤ 1048576 := Nat.le_trans (Nat.pow_le_pow_right (by omega) hh) (by decide)
theorem left_eq (h k : Nat) : (k : Int) / 2 ^ h = ((halves h k).1 : Int) := by
  have e : (2 : Int) ^ h = ((2 ^ h : Nat) : Int) := by simp
  rw [e]
  exact (Int.natCast_ediv k (2 ^ h)).symm
theorem right_eq {h k : Nat} (hh : h ≤ 20) (hk : k < 9223372036854775808) : bits .and .i64 (k : Int) (wrap64 (wrap64 (2 ^ h) - 1)) = ((halves h k).2 : Int) := by
  have h1 := side_le hh
  have h0 : 0 < 2 ^ h := Nat.pow_pos (by omega)
  have e : (2 : Int) ^ h = ((2 ^ h : Nat) : Int) := by simp
  have e2 : wrap64 (wrap64 (2 ^ h) - 1) = ((2 ^ h - 1 : Nat) : Int) := by
    rw [e]
    unfold wrap64
    omega
  rw [e2, i64_and_nat _ _ hk (by omega), Nat.and_two_pow_sub_one_eq_mod]
  rfl
theorem join_eq {h l r : Nat} (hh : h ≤ 20) (hl : l < 2 ^ h) (hr : r < 2 ^ h) : bits .or .i64 (wrap64 ((l : Int) * 2 ^ h)) (r : Int) = (joinH h (l, r) : Int) := by
  have h1 := side_le hh
  have e : (l : Int) * (2 : Int) ^ h = ((l * 2 ^ h : Nat) : Int) := by simp
  have hb : l * 2 ^ h ≤ 1048576 * 1048576 := Nat.mul_le_mul (by omega) h1
  have e2 : wrap64 ((l : Int) * 2 ^ h) = ((l * 2 ^ h : Nat) : Int) := by
    rw [e]
    unfold wrap64
    omega
  rw [e2, i64_or_nat _ _ (by omega) (by omega)]
  have := Nat.shiftLeft_add_eq_or_of_lt hr l
  rw [Nat.shiftLeft_eq] at this
  rw [← this]
  rfl

set_option maxHeartbeats 2000000 in
set_option maxRecDepth 100000 in
theorem back_any (seed : Int) (h k : Nat) (hh : h ≤ 20) (hk : k < 2 ^ h * 2 ^ h) (w : World) : Calls Tryz.prog 98 #[.agg #[.int .u64 seed, .int .i64 h], .int .i64 k] w fun e w' => e = .returned (.int .i64 (backN (partN seed h) h k)) ∧ New w w' := by
  have hk40 : k < 1099511627776 := Nat.lt_of_lt_of_le hk (by rw [← Nat.pow_add]; exact Nat.le_trans (Nat.pow_le_pow_right (by omega) (show h + h ≤ 40 by omega)) (by decide))
  have HK := Lib.hid hk
  clear hk
  go_enter Tryz.func98, Tryz.ntmps98
  go_wp2_with fail
  go_quiet (fail)
  rw [left_eq, right_eq hh (by omega)]
  have hlt := halves_lt HK.out
  obtain ⟨l0, r0, hx0⟩ : ∃ l r, halves h k = (l, r) := ⟨_, _, rfl⟩
  rw [hx0] at hlt ⊢
  have hl0 : l0 < 2 ^ h := hlt.1
  have hr0 : r0 < 2 ^ h := hlt.2
  have hside := side_le hh
  have hn1 : New w ((w.alloc (.cells #[.int .u64 seed, .int .i64 h] 142)).drewN nq) := ((Chg.refl _ w).alloc _).drewN _
  have hb1 : Blk ((w.alloc (.cells #[.int .u64 seed, .int .i64 h] 142)).drewN nq) w.heap.size 142 #[.int .u64 seed, .int .i64 h] := (Blk.new _ _ _).drewN _
  generalize ((w.alloc (.cells #[.int .u64 seed, .int .i64 h] 142)).drewN nq) = w1 at *
  have H1 := Lib.hid (And.intro hn1 (And.intro hb1 hx0))
  have HS := Lib.hid (And.intro hl0 (And.intro hr0 hside))
  clear hn1 hb1 hx0 hlt hl0 hr0 hside
  go_wp2_with fail
  refine (rounds_any w1).mono ?_
  rintro e w2 ⟨rfl, hn2⟩
  have hn3 : New w1 (w2.alloc (.cells #[.int .i64 0, .int .i64 1, .int .i64 2, .int .i64 3] 164)) := hn2.alloc _
  have hb3 : Blk (w2.alloc (.cells #[.int .i64 0, .int .i64 1, .int .i64 2, .int .i64 3] 164)) w2.heap.size 164 #[.int .i64 0, .int .i64 1, .int .i64 2, .int .i64 3] := Blk.new _ _ _
  have H3 := Lib.hid (And.intro (H1.out.1.new hn3) (And.intro (H1.out.2.1.chg hn3 (fun h => h)) (And.intro hb3 H1.out.2.2)))
  clear hn2 hn3 hb3 H1
  go_wp2_with fail
  generalize hw3 : (w2.alloc (.cells #[.int .i64 0, .int .i64 1, .int .i64 2, .int .i64 3] 164)) = w3 at *
  clear hw3
  generalize w2.heap.size = g at *
  go_loopw [5, 6, 8] (fun l r i wr => ∃ j l' r' : Nat, j ≤ 4 ∧ l = .int .i64 l' ∧ r = .int .i64 r' ∧ i = .int .i64 ((j : Int) - 1) ∧ bwd (partN seed h) j (l', r') = bwd (partN seed h) 4 (l0, r0) ∧ l' < 2 ^ h ∧ r' < 2 ^ h ∧ New w3 wr)
    (fun _ _ i _ => (intOf i + 1).toNat)
  case atStart => exact ⟨4, l0, r0, by omega, rfl, rfl, rfl, rfl, HS.out.1, HS.out.2.1, Chg.refl _ _⟩
  case round =>
    obtain ⟨j, l, r, hj, rfl, rfl, rfl, hbw, hl, hr, hnew⟩ := hrel
    have hside := HS.out.2.2
    have hb4 := H3.out.2.1.chg hnew (fun h => h)
    have hc0 := hb4.cell 0 rfl
    have hc1 := hb4.cell 1 rfl
    have hlb : l < 1048576 := Nat.lt_of_lt_of_le hl hside
    have hrb : r < 1048576 := Nat.lt_of_lt_of_le hr hside
    have HW := Lib.hid (And.intro hbw (And.intro hl (And.intro hr hnew)))
    rcases j with _ | j
    · clear hbw hl hr hside
      have hi : decide ((0 : Int) ≤ ((0 : Nat) : Int) - 1) = false := by simp
      go_wp2
      go_ret
      obtain ⟨hbw, hl, hr, hnew⟩ := HW.out
      refine ⟨ret_int ?_, H3.out.1.new hnew⟩
      rw [join_eq hh hl hr]
      unfold backN
      rw [H3.out.2.2.2, ← hbw]
      rfl
    · have hij : ((j + 1 : Nat) : Int) - 1 = (j : Int) := by omega
      rw [hij]
      have hlist := H3.out.2.2.1.chg hnew (fun h => h)
      have hcell : wr.cell? ⟨g, j, none⟩ = some (.int .i64 (j : Int)) := by
        rcases j with _ | _ | _ | _ | j
        · exact hlist.cell 0 rfl
        · exact hlist.cell 1 rfl
        · exact hlist.cell 2 rfl
        · exact hlist.cell 3 rfl
        · omega
      have hji : (j : Int) < 4 := by omega
      have hpart := part_any seed h hh j l wr.drew
      have hpl := partN_lt seed h j l
      clear hbw hl hr hside hnew hlist hij
      go_wp2_with fail
      go_region_with (first
        | (go_at_call 116; refine hpart.mono ?_; rintro e w5 ⟨rfl, HN5⟩))
      all_goals
        go_wp2
        go_roundw
        case rel =>
          obtain ⟨hbw, hl, hr, hnew⟩ := HW.out
          have hside := HS.out.2.2
          refine ⟨j, r ^^^ partN seed h j l, l, by omega, ?_, rfl, by go_num, hbw, Nat.xor_lt_two_pow hr hpl, hl, hnew.drew.new HN5⟩
          rw [i64_xor_nat r _ (by omega) (by omega)]
        case measure => simp [intOf]
end Go.Proofs.YtmpkaimhjdkheaaGreatDoor

namespace Go.Proofs.YtmpkaimhjdkheaaGreatDoor
open Go.RowKit Go.Shelf Go.Mem Go.Pure

/-- What is wrong with the arguments of Order. -/
def boundsI (n k : Int) : Int := if n < 1 ∨ 1099511627776 < n then 1 else if k < 0 ∨ n ≤ k then 5 else 0
theorem boundsI_ok {n k : Int} (h : boundsI n k = 0) : 1 ≤ n ∧ n ≤ 1099511627776 ∧ 0 ≤ k ∧ k < n := by
  unfold boundsI at h
  split at h
  · cases h
  · split at h
    · cases h
    · omega
theorem boundsI_of {n k : Int} (h1 : 1 ≤ n) (h2 : n ≤ 1099511627776) (h3 : 0 ≤ k) (h4 : k < n) : boundsI n k = 0 := by
  unfold boundsI
  rw [if_neg (by omega), if_neg (by omega)]

set_option maxHeartbeats 1000000 in
theorem bounds_any (n k : Int) (w : World) : Calls Tryz.prog 96 #[.int .i64 n, .int .i64 k] w fun e w' => e = .returned (.int .i64 (boundsI n k)) ∧ w = w' := by
  by_cases h1 : n < 1
  · go_enter Tryz.func96, Tryz.ntmps96
    go_wp2
    go_ret
    exact ⟨ret_int (by unfold boundsI; rw [if_pos (.inl h1)]), rfl⟩
  · have g1 : decide (n < 1) = false := by simp; omega
    by_cases h2 : 1099511627776 < n
    · go_enter Tryz.func96, Tryz.ntmps96
      go_wp2
      go_ret
      exact ⟨ret_int (by unfold boundsI; rw [if_pos (.inr h2)]), rfl⟩
    · have g2 : decide (1099511627776 < n) = false := by simp; omega
      by_cases h3 : k < 0
      · go_enter Tryz.func96, Tryz.ntmps96
        go_wp2
        go_ret
        exact ⟨ret_int (by unfold boundsI; rw [if_neg (by omega), if_pos (.inl h3)]), rfl⟩
      · have g3 : decide (k < 0) = false := by simp; omega
        by_cases h4 : n ≤ k
        · go_enter Tryz.func96, Tryz.ntmps96
          go_wp2
          go_ret
          exact ⟨ret_int (by unfold boundsI; rw [if_neg (by omega), if_pos (.inr h4)]), rfl⟩
        · have g4 : decide (n ≤ k) = false := by simp; omega
          go_enter Tryz.func96, Tryz.ntmps96
          go_wp2
          go_ret
          exact ⟨ret_int (by unfold boundsI; rw [if_neg (by omega), if_neg (by omega)]), rfl⟩

/-- The half for n numbers (20 where there is none). -/
theorem half_ex (n : Nat) (hn : n ≤ 1099511627776) : ∃ h, IsHalf n h := by
  obtain ⟨t, ht, hmin⟩ := least (P := fun t => n ≤ 4 ^ (t + 1)) ⟨19, by show n ≤ 4 ^ 20; omega⟩
  refine ⟨t + 1, by omega, ht, fun j h1 h2 => ?_⟩
  have := hmin (j - 1) (by omega)
  rw [show j - 1 + 1 = j by omega] at this
  omega
open Classical in
noncomputable def halfN (n : Nat) : Nat := if h : ∃ g, IsHalf n g then h.choose else 20
theorem halfN_eq {n h : Nat} (H : IsHalf n h) : halfN n = h := by
  unfold halfN
  rw [dif_pos ⟨h, H⟩]
  exact IsHalf.uniq (Exists.choose_spec _) H
theorem sq_pow (h : Nat) : 2 ^ h * 2 ^ h = 4 ^ h := by rw [four_pow, ← Nat.pow_add]; congr 1; omega
noncomputable def placeN (seed : Int) (n k : Nat) : Nat := land (backN (partN seed (halfN n)) (halfN n)) n k
theorem permN (seed : Int) {n h : Nat} (H : IsHalf n h) : Perm (forthN (partN seed h) h) (backN (partN seed h) h) (4 ^ h) := by
  have := feistel (p := partN seed h) (h := h) (fun i r => partN_lt seed h i r)
  rwa [sq_pow] at this
theorem place_lt (seed : Int) {n k : Nat} (hn : n ≤ 1099511627776) (hk : k < n) : placeN seed n k < n := by
  obtain ⟨h, H⟩ := half_ex n hn
  unfold placeN
  rw [halfN_eq H]
  exact land_lt (permN seed H).symm H.2.1 hk
/-- The walk of land: x has been reached, dist is what is left. -/
theorem land_walk {f : Nat → Nat} {n k x : Nat} (h : ∃ t, iter f t x < n) (e : land f n k = iter f (dist f n x) x) (hx : ¬ x < n) : (∃ t, iter f t (f x) < n) ∧ land f n k = iter f (dist f n (f x)) (f x) ∧ dist f n (f x) < dist f n x := by
  obtain ⟨h1, h2⟩ := dist_step h hx
  refine ⟨h2, ?_, by omega⟩
  rw [e, h1]
  rfl
theorem dist_zero {f : Nat → Nat} {n x : Nat} (hx : x < n) : dist f n x = 0 := by
  have h : ∃ t, iter f t x < n := ⟨0, hx⟩
  obtain ⟨_, h2⟩ := dist_spec h
  rcases Nat.eq_zero_or_pos (dist f n x) with h0 | h0
  · exact h0
  · exact absurd hx (h2 0 h0)

set_option maxHeartbeats 2000000 in
set_option maxRecDepth 100000 in
theorem place_any (seed : Int) (n k : Int) (w : World) (hn : -9223372036854775808 ≤ n ∧ n ≤ 9223372036854775807) : Calls Tryz.prog 72 #[.int .u64 seed, .int .i64 n, .int .i64 k] w fun e w' =>
    e = .returned (.tuple #[.int .i64 (if boundsI n k = 0 then (placeN seed n.toNat k.toNat : Int) else 0), .int .i64 (boundsI n k)]) ∧ New w w' := by
  by_cases hb : boundsI n k = 0
  · obtain ⟨h1, h2, h3, h4⟩ := boundsI_ok hb
    obtain ⟨N, rfl⟩ : ∃ N : Nat, n = (N : Int) := ⟨n.toNat, by omega⟩
    obtain ⟨K, rfl⟩ : ∃ K : Nat, k = (K : Int) := ⟨k.toNat, by omega⟩
    have hN : N ≤ 1099511627776 := by omega
    have hK : K < N := by omega
    rw [if_pos hb, hb, Int.toNat_natCast, Int.toNat_natCast]
    have HB := Lib.hid hb
    clear hb h1 h2 h3 h4 hn
    obtain ⟨h, hH⟩ := half_ex N hN
    have hh := hH.le hN
    have hon : placeN seed N K = land (backN (partN seed h) h) N K := by unfold placeN; rw [halfN_eq hH]
    rw [hon]
    clear hon
    have hperm := (permN seed hH).symm
    obtain ⟨f, hf⟩ : ∃ f, backN (partN seed h) h = f := ⟨_, rfl⟩
    have hfa := fun x (hx : x < 4 ^ h) W => back_any seed h x hh (by rw [sq_pow]; exact hx) W
    rw [hf] at hfa hperm ⊢
    have HF := Lib.hid (And.intro hperm (And.intro hfa (And.intro hH hf)))
    have hN4 := hH.2.1
    obtain ⟨M, hM⟩ : ∃ M, 4 ^ h = M := ⟨_, rfl⟩
    have hMb : M ≤ 1099511627776 := by rw [← hM]; exact Nat.le_trans (Nat.pow_le_pow_right (by omega) hh) (by decide)
    rw [hM] at hN4 HF
    clear hM hf hperm hfa hH
    go_enter Tryz.func72, Tryz.ntmps72
    go_wp2_with fail
    refine (bounds_any (N : Int) (K : Int) w).mono ?_
    rintro e w1 ⟨rfl, rfl⟩
    rw [HB.out]
    go_wp2_with fail
    refine (newMixer_any seed N hN w).mono ?_
    rintro e w2 ⟨h', rfl, hH', hn2⟩
    obtain rfl : h' = h := hH'.uniq HF.out.2.2.1
    have hn3 : New w (w2.alloc (.cells #[.int .u64 seed, .int .i64 h'] 142)) := hn2.alloc _
    have hb3 : Blk (w2.alloc (.cells #[.int .u64 seed, .int .i64 h'] 142)) w2.heap.size 142 #[.int .u64 seed, .int .i64 h'] := Blk.new _ _ _
    have H3 := Lib.hid (And.intro hn3 hb3)
    clear hn2 hn3 hb3 hH'
    go_wp2_with fail
    generalize hw3 : (w2.alloc (.cells #[.int .u64 seed, .int .i64 h'] 142)) = w3 at *
    clear hw3
    generalize w2.heap.size = g at *
    refine (HF.out.2.1 K (by omega) w3).mono ?_
    rintro e w4 ⟨rfl, hn4⟩
    have H4 := Lib.hid (And.intro (H3.out.1.new hn4) (H3.out.2.chg hn4 (fun h => h)))
    clear hn4
    go_wp2_with fail
    go_loopw [2] (fun x wr => ∃ y : Nat, x = .int .i64 y ∧ y < M ∧ (∃ t, iter f t y < N) ∧ land f N K = iter f (dist f N y) y ∧ New w4 wr) (fun x _ => dist f N (intOf x).toNat)
    case atStart => exact ⟨f K, rfl, HF.out.1.fl K (by omega), land_ex HF.out.1 hN4 hK, rfl, Chg.refl _ _⟩
    case round =>
      obtain ⟨y, rfl, hy, hex, hland, hnew⟩ := hrel
      have HX := Lib.hid (And.intro hex (And.intro hland hnew))
      have hb5 := H4.out.2.chg hnew (fun h => h)
      have hc0 := hb5.cell 0 rfl
      have hc1 := hb5.cell 1 rfl
      clear hex hland hnew
      by_cases hlt : y < N
      · have hge : decide ((N : Int) ≤ (y : Int)) = false := by simp; omega
        go_wp2
        go_ret2
        obtain ⟨hex, hland, hnew⟩ := HX.out
        rw [hland, dist_zero hlt]
        exact ⟨rfl, H4.out.1.new hnew⟩
      · have hge : (N : Int) ≤ (y : Int) := by omega
        go_wp2_with fail
        refine (HF.out.2.1 y hy wr).mono ?_
        rintro e w6 ⟨rfl, hn6⟩
        have HN6 := Lib.hid hn6
        clear hn6
        go_wp2
        go_roundw
        case rel =>
          obtain ⟨hex, hland, hnew⟩ := HX.out
          obtain ⟨h1, h2, h3⟩ := land_walk hex hland hlt
          exact ⟨f y, rfl, HF.out.1.fl y hy, h1, h2, hnew.new HN6.out⟩
        case measure =>
          obtain ⟨hex, hland, hnew⟩ := HX.out
          obtain ⟨h1, h2, h3⟩ := land_walk hex hland hlt
          simpa [intOf] using h3
  · have HB := Lib.hid hb
    have hne : (boundsI n k == 0) = false := by simpa using hb
    have hne' : (boundsI n k != 0) = true := by simpa using hb
    rw [if_neg hb]
    clear hb
    obtain ⟨B, hB⟩ : ∃ B, boundsI n k = B := ⟨_, rfl⟩
    rw [hB] at hne hne' ⊢
    have HBB := Lib.hid hB
    clear hB
    go_enter Tryz.func72, Tryz.ntmps72
    go_wp2_with fail
    refine (bounds_any n k w).mono ?_
    rintro e w1 ⟨rfl, rfl⟩
    rw [HBB.out]
    go_wp2
    go_ret2
    exact ⟨rfl, Chg.refl _ _⟩
end Go.Proofs.YtmpkaimhjdkheaaGreatDoor

namespace Go.Proofs.YtmpkaimhjdkheaaGreatDoor
set_option linter.unusedVariables false
open Go.RowKit Go.Mem Go.Dig Go.Pure

theorem sameI_step {a b : List Int} {k : Nat} {x y : Int} (h : a.take k = b.take k) (hx : a[k]? = some x) (hy : b[k]? = some y) (e : x = y) : a.take (k + 1) = b.take (k + 1) := by
  rw [List.take_add_one, List.take_add_one, h, hx, hy, e]

set_option maxHeartbeats 1000000 in
theorem sameInts_any (A B : Option Addr) (n m c d : Nat) (la lb : List Int) (w : World) (ha : Rd w A n (is la)) (hb : Rd w B m (is lb)) (hn : n ≤ 9223372036854775807) (hm : m ≤ 9223372036854775807) :
    Calls Tryz.prog 47 #[.slice A n c, .slice B m d] w fun e w' => e = .returned (.bool (decide (la = lb))) ∧ ∃ m, w' = w.drewN m := by
  have hla : la.length = n := by have := ha.len; rwa [is_length] at this
  have hlb : lb.length = m := by have := hb.len; rwa [is_length] at this
  by_cases h : n = m
  · subst h
    have HA := Lib.hid hla
    have HB := Lib.hid hlb
    clear hla hlb
    go_enter Tryz.func47, Tryz.ntmps47
    go_wp2
    go_loopw [5] (fun i wr => ∃ k : Nat, k ≤ n ∧ i = .int .i64 k ∧ la.take k = lb.take k ∧ ∃ q, wr = w.drewN q) (fun i _ => n - (intOf i).toNat)
    case atStart => exact ⟨0, Nat.zero_le _, rfl, rfl, 0, rfl⟩
    case round =>
      obtain ⟨k, hk, rfl, htake, hnew⟩ := hrel
      have HT := Lib.hid htake
      obtain ⟨q, hq⟩ := hnew
      have hnew : New w wr := by rw [hq]; exact (Chg.refl _ w).drewN q
      have HQ := Lib.hid hq
      clear htake hq
      by_cases hlt : k < n
      · obtain ⟨ad, u, rfl, hu, hcu⟩ := (ha.new hnew).at_ hlt
        obtain ⟨bd, v, rfl, hv, hcv⟩ := (hb.new hnew).at_ hlt
        obtain ⟨x, hx, rfl⟩ := is_at hu
        obtain ⟨y, hy, rfl⟩ := is_at hv
        have HX := Lib.hid hx
        have HY := Lib.hid hy
        clear hu hv hx hy ha hb
        by_cases hxy : x = y
        · subst hxy
          go_wp2
          go_quiet (fail)
          go_wp2
          go_roundw
          case rel => exact ⟨k + 1, by omega, by go_num, sameI_step HT.out HX.out HY.out rfl, _, by rw [HQ.out, World.drewN_drewN]⟩
          case measure => simp [intOf]; omega
        · have hne : (x != y) = true := by simp [hxy]
          have e : la ≠ lb := fun e => by
            have h1 := HX.out
            rw [e, HY.out] at h1
            injection h1 with h1
            exact hxy h1.symm
          have HE : Hid (decide (la = lb) = false) := by show _ = _; simpa using e
          clear e
          go_wp2
          go_quiet (fail)
          go_wp2
          go_ret
          rw [HE.out]
          exact ⟨rfl, _, by rw [HQ.out, World.drewN_drewN]⟩
      · go_wp2
        go_ret
        have hk' : k = n := by omega
        subst hk'
        have e : la = lb := by
          have := HT.out
          rwa [List.take_of_length_le (by rw [HA.out]; omega), List.take_of_length_le (by rw [HB.out]; omega)] at this
        exact ⟨by simp [e], _, HQ.out⟩
  · have e : la ≠ lb := fun e => h (by rw [← hla, ← hlb, e])
    have hd : decide (la = lb) = false := by simpa using e
    have H := Lib.hid hd
    clear hla hlb hd
    go_enter Tryz.func47, Tryz.ntmps47
    go_wp2
    go_ret
    rw [H.out]
    exact ⟨by simp, 0, rfl⟩

/-- What Shuffle returns. -/
noncomputable def shufL (seed : Int) (n : Nat) : List Int := (List.range n).map (fun k => (placeN seed n k : Int))
noncomputable def shufTo (seed : Int) (n k : Nat) : List Int := (List.range k).map (fun k => (placeN seed n k : Int)) ++ List.replicate (n - k) 0
theorem shufTo_step (seed : Int) {n k : Nat} (h : k < n) : (shufTo seed n k).set k (placeN seed n k : Int) = shufTo seed n (k + 1) := by
  unfold shufTo
  rw [List.set_append_right _ _ (by simp), List.length_map, List.length_range, Nat.sub_self, List.range_succ, List.map_append, List.append_assoc]
  congr 1
  obtain ⟨m, hm⟩ : ∃ m, n - k = m + 1 := ⟨n - k - 1, by omega⟩
  rw [hm, show n - (k + 1) = m by omega, List.replicate_succ, List.set_cons_zero]
  rfl
theorem shufTo_all (seed : Int) (n : Nat) : shufTo seed n n = shufL seed n := by simp [shufTo, shufL]

set_option maxHeartbeats 1000000 in
theorem shuffle_any (seed : Int) (n : Nat) (h1 : 1 ≤ n) (h2 : n ≤ 1024) (w : World) :
    Calls Tryz.prog 46 #[.int .u64 seed, .int .i64 n] w fun e w' => ∃ A c, e = .returned (.tuple #[.slice A n c, .int .i64 0]) ∧ w'.ownsRow w.heap.size 3 1 (.slice A n c) n (is (shufL seed n)) ∧ New w w' := by
  have g1 : decide ((n : Int) < 1) = false := by simp; omega
  have g2 : decide ((1024 : Int) < (n : Int)) = false := by simp; omega
  go_enter Tryz.func46, Tryz.ntmps46
  go_wp2_with (at_make; refine wpList_mk elemInts rfl rfl _ _ rfl (n := n) rfl rfl rfl rfl (by omega) (by simp only [maxLen]; omega) ?_; intro w1 hown hg hz; have HO := Lib.hid (And.intro hown (And.intro hg hz)); clear hown hg hz)
  go_loopw [18] (fun i wr => ∃ k : Nat, k ≤ n ∧ i = .int .i64 k ∧ Hid (wr.ownsRow w.heap.size 3 1 (.slice (some ⟨w.heap.size, 0, none⟩) n n) n (is (shufTo seed n k)) ∧ New w wr)) (fun i _ => n - (intOf i).toNat)
  case atStart =>
    refine ⟨0, Nat.zero_le _, rfl, ?_, HO.out.2.1⟩
    have := HO.out.1
    rw [show List.replicate n (Value.int .i64 0) = is (shufTo seed n 0) by simp [shufTo, is]] at this
    exact this
  case round =>
    obtain ⟨k, hk, rfl, HR⟩ := hrel
    clear HO
    by_cases hlt : k < n
    · have HB : Hid (boundsI (n : Int) (k : Int) = 0) := boundsI_of (by omega) (by omega) (by omega) (by omega)
      go_wp2_with fail
      refine (place_any seed (n : Int) (k : Int) wr (by omega)).mono ?_
      rw [HB.out, if_pos rfl, Int.toNat_natCast, Int.toNat_natCast]
      rintro e w2 ⟨rfl, hn2⟩
      obtain ⟨ho, hnew⟩ := HR.out
      have ho2 := own_chg ho hn2 (fun _ _ h => h)
      obtain ⟨g, hg, hg1, hg2, hfz⟩ := own_form ho2 (by omega)
      have hgw : w.heap.size = g := by simpa using hg
      have hf := hfz k
      have hlk : k < (shufTo seed n k).length := by unfold shufTo; simp; omega
      have hcell := own_cell ho2 (i := k) (u := .int .i64 ((shufTo seed n k)[k])) (by unfold is; rw [List.getElem?_map, List.getElem?_eq_getElem hlk]; rfl)
      rw [← hgw] at hf
      generalize (shufTo seed n k)[k] = old at hcell
      have H2 := Lib.hid (And.intro ho2 (hnew.new hn2))
      obtain ⟨p, hp⟩ : ∃ p, placeN seed n k = p := ⟨_, rfl⟩
      rw [hp]
      have HP := Lib.hid hp
      have hsz := hg2
      rw [← hgw] at hsz
      clear ho hnew ho2 hg hg1 hg2 hfz hgw hp hn2 HR HB hlk
      go_wp2
      go_roundw
      case rel =>
        obtain ⟨ho2, hn2⟩ := H2.out
        refine ⟨k + 1, by omega, by go_num, ?_, ?_⟩
        · rw [← shufTo_step seed hlt, HP.out]
          have := own_set ho2 k (.int .i64 (p : Int)) hlt
          rw [show is ((shufTo seed n k).set k (p : Int)) = (is (shufTo seed n k)).set k (.int .i64 (p : Int)) by simp [is, List.map_set]]
          exact this
        · exact hn2.setCell (fun h => absurd h (by simp)) _
      case measure => simp [intOf]; omega
    · obtain rfl : n = k := by omega
      go_wp2
      go_ret2
      obtain ⟨ho, hn⟩ := HR.out
      rw [shufTo_all] at ho
      exact ⟨_, _, rfl, ho, hn⟩

theorem flatInt : Flat Tryz.prog 3 := ⟨_, Tryz.underlying3, rfl⟩
theorem flatErr : Flat Tryz.prog 36 := ⟨_, Tryz.underlying36, rfl⟩
set_option maxHeartbeats 1000000 in
theorem parts_one (v : Value) (w : World) (hv : WI w v 1) :
    Calls Tryz.prog 28 #[v] w fun e w' => ∃ v', e = .returned (.tuple #[.int .i64 0, v', .bool true]) ∧ WI w' v' 1 ∧ New w w' := by
  obtain ⟨s, A, n, c, rfl, hs, hm⟩ := hv
  have H := Lib.hid (And.intro hs hm)
  clear hs hm
  go_enter Tryz.func28, Tryz.ntmps28
  go_wp2_with fail
  refine Calls.new2 ?_
  intro W hb1 hb2 hn hz
  refine (from_any 1 W (by omega) (by omega)).mono ?_
  rintro e w1 ⟨v1, rfl, ⟨s1, A1, n1, c1, rfl, hs1, hm1⟩, hn1⟩
  have hb3 := hb1.chg hn1 (fun h => h)
  have hb4 := hb2.chg hn1 (fun h => h)
  have hz1 : w.heap.size + 2 ≤ w1.heap.size := by have := hn1.size; omega
  obtain ⟨W2, hW2⟩ : ∃ W2, w1.alloc (.cells #[.bool s1, .slice A1 n1 c1] 35) = W2 := ⟨_, rfl⟩
  have hb5 : Blk W2 w1.heap.size 35 #[.bool s1, .slice A1 n1 c1] := by rw [← hW2]; exact Blk.new _ _ _
  have hn2 : New w1 W2 := by rw [← hW2]; exact (Chg.refl _ w1).alloc _
  have H1 := Lib.hid (And.intro (hb3.chg hn2 (fun h => h)) (And.intro (hb4.chg hn2 (fun h => h)) (And.intro hb5 (And.intro ((hn.new hn1).new hn2) (And.intro hs1 (hm1.new hn2))))))
  have HW2 := Lib.hid hW2
  clear hb1 hb2 hn hn1 hb3 hb4 hs1 hm1 hz hb5 hn2 hW2
  go_wp2_with fail
  go_loopw [6] (fun i wr => i = .int .i64 0 ∧ wr = W2) (fun i _ => 0)
  case atStart => exact ⟨rfl, HW2.out⟩
  case round =>
    obtain ⟨rfl, hwr⟩ := hrel
    clear HW2
    subst hwr
    obtain ⟨hb3, hb4, hb5, hn, hs1, hm1⟩ := H1.out
    have hc30 := hb3.cell 0 (u := .bool s) rfl
    have hc31 := hb3.cell 1 (u := .slice A n c) rfl
    have hc50 := hb5.cell 0 (u := .bool s1) rfl
    have hc51 := hb5.cell 1 (u := .slice A1 n1 c1) rfl
    clear hb3 hb4 hb5 hn hs1 hm1
    go_wp2_with fail
    obtain ⟨hb3, hb4, hb5, hn, hs1, hm1⟩ := H1.out
    refine (compare_any _ _ 1 1 wr (WI.new ⟨s, A, n, c, rfl, H.out⟩ hn) ⟨s1, A1, n1, c1, rfl, hs1, hm1⟩).mono ?_
    rintro e w3 ⟨rfl, hn3⟩
    rw [show cmpI 1 1 = 0 by decide]
    have hb6 := hb4.chg hn3 (fun h => h)
    have hb7 := hb5.chg hn3 (fun h => h)
    have hc60 := hb6.cell 0 (u := .bool false) rfl
    have hc61 := hb6.cell 1 (u := .slice none 0 0) rfl
    have hf60 := hb6.frozen 0
    have hf61 := hb6.frozen 1
    have hc70 := hb7.cell 0 (u := .bool s1) rfl
    have hc71 := hb7.cell 1 (u := .slice A1 n1 c1) rfl
    have H3 := Lib.hid (And.intro hb6 (And.intro (hn.new hn3) (And.intro hs1 (hm1.new hn3))))
    clear hb3 hb4 hb5 hn hn3 hs1 hm1 hb6 hb7 hc30 hc31 hc50 hc51 H1 H
    go_wp2_with fail
    go_region
    all_goals
      go_wp2
      obtain ⟨hb6, hn, hs1, hm1⟩ := H3.out
      refine bodyPost_ret (res_tct rfl _ rfl rfl (aggInt.load (Blk.drew (hb6.set2 _ _))) rfl) rfl ⟨_, rfl, ⟨s1, A1, n1, c1, rfl, hs1, ?_⟩, ?_⟩
      · exact hm1.store hb6 (noInt_two _ _ _ _) ((Chg.at2 _ _ _ _).drew)
      · exact Chg.owned hn (Chg.at2 _ _ _ _).drew (fun k e => by omega)

set_option maxHeartbeats 1000000 in
theorem big_one (seed : Int) (lab : ByteArray) (i : Int) (v : Value) (w : World) (hv : WI w v 1) :
    Calls Tryz.prog 13 #[.int .u64 seed, .string lab, .int .i64 i, v] w fun e w' => e = .returned (.tuple #[.agg #[.bool false, .slice none 0 0], .int .i64 i, .int .i64 0]) ∧ New w w' := by
  obtain ⟨s, A, n, c, rfl, hs, hm⟩ := hv
  have H := Lib.hid (And.intro hs hm)
  clear hs hm
  go_enter Tryz.func13, Tryz.ntmps13
  go_wp2_with fail
  refine Calls.new4 ?_
  intro W hb1 hb2 hb3 hb4 hn hz
  have hwi : WI W (.agg #[.bool s, .slice A n c]) 1 := WI.new ⟨s, A, n, c, rfl, H.out⟩ hn
  refine (sign_any _ 1 W hwi).mono ?_
  rintro e w1 ⟨rfl, hn1⟩
  rw [show cmpI 1 0 = 1 by decide]
  have hc := hb1.chg hn1 (fun h => h)
  have hc0 := hc.cell 0 rfl
  have hc1 := hc.cell 1 rfl
  have H1 := Lib.hid (And.intro hb2 (And.intro hb3 (And.intro hb4 (And.intro hn (And.intro hn1 (hwi.new hn1))))))
  have hz1 : w.heap.size + 4 ≤ w1.heap.size := by have := hn1.size; omega
  clear hb1 hb2 hb3 hb4 hn hn1 hwi hc hz H
  go_wp2_with fail
  refine (parts_one _ w1 H1.out.2.2.2.2.2).mono ?_
  rintro e w2 ⟨v2, rfl, ⟨s2, A2, n2, c2, rfl, hs2, hm2⟩, hn2⟩
  obtain ⟨hb2, hb3, hb4, hn, hn1, _⟩ := H1.out
  have hd2 := (hb2.chg hn1 (fun h => h)).chg hn2 (fun h => h)
  have hd3 := (hb3.chg hn1 (fun h => h)).chg hn2 (fun h => h)
  have hd4 := (hb4.chg hn1 (fun h => h)).chg hn2 (fun h => h)
  have hcA := hd2.cell 0 (u := .bool false) rfl
  have hcB := hd2.cell 1 (u := .slice none 0 0) rfl
  have hcC := hd3.cell 0 (u := .int .i64 0) rfl
  have hcD := hd4.cell 0 (u := .int .i64 0) rfl
  have hl0 : w.heap.size < w2.heap.size := by have := hd2.lt; omega
  have hlA := hd2.lt
  have hlC := hd3.lt
  have hlD := hd4.lt
  have hfA := hd2.frozen 0
  have hfB := hd2.frozen 1
  have hfC := hd3.frozen 0
  have hfD := hd4.frozen 0
  have hz2 : w.heap.size + 4 ≤ w2.heap.size := by have := hn2.size; omega
  have H2 := Lib.hid (And.intro hd2 (And.intro hd3 (And.intro hd4 ((hn.new hn1).new hn2))))
  clear hb2 hb3 hb4 hn hn1 hs2 hm2 hn2 hd2 hd3 hd4 H1 hc0 hc1 hz1
  go_wp2_with fail
  obtain ⟨hd2, hd3, hd4, hn⟩ := H2.out
  have k2 := ((((hd2.set2 (.bool false) (.slice none 0 0)).far (p := ⟨w.heap.size + 1 + 1, 0, none⟩) (by dsimp only; omega) (.int .i64 i)).far (p := ⟨w.heap.size + 1 + 1 + 1, 0, none⟩) (by dsimp only; omega) (.int .i64 0)).alloc (.cells #[.int .i64 0] 3)).alloc (.cells #[.bool s2, .slice A2 n2 c2] 35)
  have k3 := (((((hd3.far (p := ⟨w.heap.size + 1, 0, none⟩) (by dsimp only; omega) (.bool false)).far (p := ⟨w.heap.size + 1, 1, none⟩) (by dsimp only; omega) (.slice none 0 0)).set1 (.int .i64 i)).far (p := ⟨w.heap.size + 1 + 1 + 1, 0, none⟩) (by dsimp only; omega) (.int .i64 0)).alloc (.cells #[.int .i64 0] 3)).alloc (.cells #[.bool s2, .slice A2 n2 c2] 35)
  have k4 := (((((hd4.far (p := ⟨w.heap.size + 1, 0, none⟩) (by dsimp only; omega) (.bool false)).far (p := ⟨w.heap.size + 1, 1, none⟩) (by dsimp only; omega) (.slice none 0 0)).far (p := ⟨w.heap.size + 1 + 1, 0, none⟩) (by dsimp only; omega) (.int .i64 i)).set1 (.int .i64 0)).alloc (.cells #[.int .i64 0] 3)).alloc (.cells #[.bool s2, .slice A2 n2 c2] 35)
  refine bodyPost_ret (res_ccc rfl _ rfl (aggInt.load k2) rfl (flatInt.load k3) rfl (flatErr.load k4)) rfl ⟨rfl, ?_⟩
  exact (((((hn.setCell (fun h => absurd h (by simp)) _).setCell (fun h => absurd h (by simp)) _).setCell (fun h => absurd h (by simp; omega)) _).setCell (fun h => absurd h (by simp; omega)) _).alloc _).alloc _

theorem below_one (seed : Int) (s : ByteArray) (hs : s.size ≤ 1000000) (i : Int) (hi : 0 ≤ i ∧ i ≤ 1000000000) (w : World) :
    Calls Tryz.prog 43 #[.int .u64 seed, .string s, .int .i64 i, .int .i64 1] w fun e w' => e = .returned (.tuple #[.int .i64 0, .int .i64 (i + 1)]) ∧ New w w' := by
  refine (below_any seed s hs i hi 1 (by omega) (by omega) w).mono ?_
  rintro e w1 ⟨rfl, hn⟩
  have ht : takenN seed s.data.toList i 1 = 0 := taken_eq (by omega) (fun j hj => by omega) (.inl (.inl (by unfold overN; omega)))
  rw [ht]
  refine ⟨?_, hn⟩
  rw [show ((1 : Nat) : Int) = 1 from rfl, Int.emod_one, show i + ((0 : Nat) : Int) + 1 = i + 1 by omega]
theorem pick3 (seed : Int) (lab : List UInt8) (i : Int) : ∃ q, pickR seed lab i [0, 3, 0] = (1, q, 0) := by
  have hg : goodW [0, 3, 0] := by intro w hw; simp at hw; omega
  have hb : ¬ pickBad [0, 3, 0] := by
    intro h
    rcases h with h | h | h | h
    · simp at h
    · simp at h
    · exact h hg
    · simp at h
  obtain ⟨r, hr⟩ : ∃ r, wordI seed lab (i + (takenN seed lab i 3 : Nat)) % ((3 : Nat) : Int) = r := ⟨_, rfl⟩
  have h0 : 0 ≤ r := by rw [← hr]; exact Int.emod_nonneg _ (by omega)
  have h3 : r < 3 := by rw [← hr]; exact Int.emod_lt_of_pos _ (by omega)
  have hk : seek [0, 3, 0] r 0 = some 1 := by
    rw [seek, if_neg (by omega), seek, if_pos (by omega)]
  exact ⟨_, pickR_ok hb (S := 3) (by simp) rfl hr hk⟩
theorem shuf1 (seed : Int) : shufL seed 1 = [0] := by
  have := place_lt seed (n := 1) (k := 0) (by omega) (by omega)
  unfold shufL
  simp
  omega

set_option maxRecDepth 100000 in
set_option maxHeartbeats 2000000 in
theorem lives_any (w : World) : Calls Tryz.prog 18 #[] w fun e w' => e = .returned (.bool true) ∧ New w w' := by
  go_enter Tryz.func18, Tryz.ntmps18
  go_wp2_with fail
  refine (below_one 1 ⟨#[120]⟩ (by decide) 5 (by omega) w).mono ?_
  rintro e w1 ⟨rfl, hn1⟩
  rw [show (5 : Int) + 1 = 6 by decide]
  have H1 := Lib.hid hn1
  clear hn1
  go_wp2_with fail
  refine (from_any 1 w1 (by omega) (by omega)).mono ?_
  rintro e w2 ⟨v2, rfl, ⟨s2, A2, n2, c2, rfl, hs2, hm2⟩, hn2⟩
  have H2 := Lib.hid (And.intro hs2 (And.intro hm2 (H1.out.new hn2)))
  clear hs2 hm2 hn2 H1
  go_wp2_with fail
  refine (big_one 1 ⟨#[120]⟩ 5 _ w2 ⟨s2, A2, n2, c2, rfl, H2.out.1, H2.out.2.1⟩).mono ?_
  rintro e w3 ⟨rfl, hn3⟩
  have H3 := Lib.hid (H2.out.2.2.new hn3)
  clear hn3 H2
  go_wp2_with fail
  refine Calls.new2 ?_
  intro W4 hb1 hb2 hn4 hz4
  obtain ⟨q, hq⟩ := pick3 1 (ByteArray.mk #[120]).data.toList 5
  have hr4 : Rd W4 (some ⟨w3.heap.size + 1, 0, none⟩) 3 (is [0, 3, 0]) := ⟨rfl, fun _ => ⟨_, rfl, fun j u hu => by rw [Addr.add_lit, Nat.zero_add]; exact hb2.cell j (by simpa [is] using hu)⟩⟩
  refine (pick_any 1 ⟨#[120]⟩ (by decide) 5 (by omega) _ 3 3 [0, 3, 0] W4 hr4 (by omega)).mono ?_
  rw [hq]
  rintro e w5 ⟨rfl, hn5⟩
  have hb6 := hb1.chg hn5 (fun h => h)
  have H5 := Lib.hid (And.intro hb6 (H3.out.new (hn4.new hn5)))
  clear hb1 hb2 hn4 hz4 hq hr4 hn5 hb6 H3
  go_wp2_with fail
  refine (shuffle_any 9 1 (by omega) (by omega) w5).mono ?_
  rintro e w6 ⟨A6, c6, rfl, ho6, hn6⟩
  rw [shuf1] at ho6
  obtain ⟨hb5, hn5⟩ := H5.out
  have hb6 := hb5.chg hn6 (fun h => h)
  have hc0 := hb6.cell 0 (u := .bool false) rfl
  have hc1 := hb6.cell 1 (u := .slice none 0 0) rfl
  have H6 := Lib.hid (And.intro (hn5.new hn6) ho6)
  clear hb5 hn5 hn6 ho6 H5 hb6
  go_wp2_with fail
  refine (sign_any _ 0 w6 (WI.zero _)).mono ?_
  rintro e w7 ⟨rfl, hn7⟩
  rw [show cmpI 0 0 = 0 by decide]
  have H7 := Lib.hid (And.intro (H6.out.1.new hn7) (own_chg H6.out.2 hn7 (fun _ _ h => h)))
  clear hn7 H6 hc0 hc1
  go_wp2_with fail
  have hr8 : Rd (w7.alloc (.cells #[.int .i64 0] 3)) (some ⟨w7.heap.size, 0, none⟩) 1 (is [0]) := Rd.lit (is [0]) rfl
  refine (sameInts_any A6 _ 1 1 c6 1 [0] [0] _ ((Rd.of_own H7.out.2).new ((Chg.refl _ _).alloc _)) hr8 (by omega) (by omega)).mono ?_
  rintro e w8 ⟨rfl, q8, hq8⟩
  rw [show decide (([0] : List Int) = [0]) = true by simp]
  have H8 := Lib.hid (show New w w8 by rw [hq8]; exact (H7.out.1.alloc _).drewN q8)
  clear hr8 hq8
  go_wp2
  go_ret
  exact ⟨rfl, H8.out⟩
end Go.Proofs.YtmpkaimhjdkheaaGreatDoor

namespace Go.Proofs.YtmpkaimhjdkheaaGreatDoor
set_option linter.unusedVariables false
open Go.RowKit Go.Mem Go.Dig Go.Pure

theorem from_b (z : Int) (W : World) (h1 : -9223372036854775808 ≤ z) (h2 : z ≤ 9223372036854775807) :
    Calls Tryz.prog 44 #[.int .i64 z] W fun e w' => ∃ s A n c, e = .returned (.agg #[.bool s, .slice A n c]) ∧ Hid (WI w' (.agg #[.bool s, .slice A n c]) z ∧ New W w') :=
  (from_any z W h1 h2).mono fun e w' ⟨v, h1, ⟨s, A, n, c, h2, h3, h4⟩, h5⟩ => ⟨s, A, n, c, by rw [h1, h2], ⟨s, A, n, c, rfl, h3, h4⟩, h5⟩
theorem powN_two' (k m : Nat) (h : 32 * k = m) : powN k = 2 ^ m := by
  subst h
  unfold powN
  rw [Nat.pow_mul]
theorem powN_le {a b : Nat} (h : a ≤ b) : powN a ≤ powN b := Nat.pow_le_pow_right (by omega) h
theorem run_idx_arr {P : Program} {t e : TypeId} {n : Nat} {cs : Array Value} (k : IntKind) {i : Nat} {u : Value} (W : World) (h : P.underlying t = some (.array n e)) {d : TypeDesc} (he : P.underlying e = some d) (hd : (match d with | .struct _ | .array _ _ => true | _ => false) = false) (hs : (P.info? e).map (·.size) = some 1) (hi : i < n) (hu : cs[i]? = some u) :
    (Instr.index t (.agg cs) (.int k (i : Int))).run P W = .ok u W := by
  have hn : (0 : Int) ≤ (i : Int) ∧ (i : Int) < (n : Int) := by omega
  cases hx : P.info? e with
  | none => rw [hx] at hs; cases hs
  | some x =>
    rw [hx] at hs
    have hs : x.size = 1 := by simpa using hs
    cases d <;> first | (simp at hd; done) | simp [Instr.index, run_underlying h, run_underlying he, asIntOf, part, isAgg, sizeOf, typeInfo, hn, hx, hs, hu] <;> (intro hh; omega)
theorem top_big {n : Nat} (h : n < topN) (m : Nat) (hm : 16384 ≤ m) : ((n : Nat) : Int).natAbs < 2 ^ m := by
  rw [Int.natAbs_natCast]
  refine Nat.lt_of_lt_of_le h ?_
  obtain ⟨K, hK⟩ : ∃ K, 32 * 512 = K := ⟨_, rfl⟩
  rw [show topN = powN 512 from rfl, powN_two' 512 K hK]
  exact Nat.pow_le_pow_right (by omega) (by omega)
theorem wmul_n (v v' : Value) (x y z : Nat) (hz : x * y = z) (w : World) (hx : WI w v (x : Int)) (hy : WI w v' (y : Int)) (bx : x < topN) (bY : y < topN) (bz : z < topN) :
    Calls Tryz.prog 62 #[v, v'] w fun e w' => ∃ s A n c, e = .returned (.tuple #[.agg #[.bool s, .slice A n c], .int .i64 0]) ∧ Hid (WI w' (.agg #[.bool s, .slice A n c]) (z : Int) ∧ New w w') := by
  have h := wmul_any v v' x y w hx hy (top_big bx 1000000 (by decide)) (top_big bY 1000000 (by decide))
  rw [← Int.natCast_mul, hz] at h
  have := rg_in (z := (z : Int)) (by rw [Int.natAbs_natCast]; exact bz)
  rwa [this.1, this.2] at h
theorem wadd_n (v v' : Value) (x y z : Nat) (hz : x + y = z) (w : World) (hx : WI w v (x : Int)) (hy : WI w v' (y : Int)) (bz : z < topN) :
    Calls Tryz.prog 58 #[v, v'] w fun e w' => ∃ s A n c, e = .returned (.tuple #[.agg #[.bool s, .slice A n c], .int .i64 0]) ∧ Hid (WI w' (.agg #[.bool s, .slice A n c]) (z : Int) ∧ New w w') := by
  have h := wadd_any v v' x y w hx hy (top_big (show x < topN by omega) 1000000 (by decide)) (top_big (show y < topN by omega) 1000000 (by decide))
  rw [← Int.natCast_add, hz] at h
  have := rg_in (z := (z : Int)) (by rw [Int.natAbs_natCast]; exact bz)
  rwa [this.1, this.2] at h

/-- The number after j halves. -/
def lfN (X h l j : Nat) : Nat := if j = 0 then X else if j = 1 then X * 4294967296 + h else (X * 4294967296 + h) * 4294967296 + l
theorem lfN_0 (X h l : Nat) : lfN X h l 0 = X := rfl
theorem lfN_1 (X h l : Nat) : lfN X h l 1 = X * 4294967296 + h := by unfold lfN; rw [if_neg (by omega), if_pos rfl]
theorem lfN_2 (X h l : Nat) : lfN X h l 2 = (X * 4294967296 + h) * 4294967296 + l := by unfold lfN; rw [if_neg (by omega), if_neg (by omega)]
theorem lfN_le {X h l j : Nat} (hj : j ≤ 2) : lfN X h l j ≤ lfN X h l 2 := by
  rcases (by omega : j = 0 ∨ j = 1 ∨ j = 2) with rfl | rfl | rfl
  · rw [lfN_0, lfN_2]; omega
  · rw [lfN_1, lfN_2]; omega
  · exact Nat.le_refl _

theorem lf_fin {X d h l Z : Nat} (hZ : X * 18446744073709551616 + d = Z) (hh : d / 4294967296 = h) (hl : d % 4294967296 = l) : lfN X h l 2 = Z := by
  have h1 : d = 4294967296 * h + l := by rw [← hh, ← hl]; exact (Nat.div_add_mod d 4294967296).symm
  rw [lfN_2, ← hZ, h1, Nat.add_mul, Nat.mul_assoc, Nat.mul_comm h, Nat.add_assoc]

set_option maxRecDepth 100000 in
set_option maxHeartbeats 4000000 in
theorem lift_any (v : Value) (X d Z : Nat) (hZ : X * 18446744073709551616 + d = Z) (hb : Z < topN) (hd : d < 18446744073709551616) (w : World) (hv : WI w v (X : Int)) :
    Calls Tryz.prog 32 #[v, .int .u64 d] w fun e w' => ∃ s A n c, e = .returned (.agg #[.bool s, .slice A n c]) ∧ Hid (WI w' (.agg #[.bool s, .slice A n c]) (Z : Int) ∧ New w w') := by
  obtain ⟨s0, A0, n0, c0, rfl, hs0, hm0⟩ := hv
  obtain ⟨h, hh⟩ : ∃ h, d / 4294967296 = h := ⟨_, rfl⟩
  obtain ⟨l, hl⟩ : ∃ l, d % 4294967296 = l := ⟨_, rfl⟩
  have hhi : (d : Int) / 4294967296 = (h : Int) := by omega
  have hli : (d : Int) % 4294967296 = (l : Int) := by omega
  have hhb : h < 4294967296 := by omega
  have hlb : l < 4294967296 := by omega
  have hf : lfN X h l 2 = Z := lf_fin hZ hh hl
  have hand : bits .and .u64 (d : Int) 4294967295 = (l : Int) := by
    rw [show (4294967295 : Int) = ((4294967295 : Nat) : Int) by rfl, u64_and_nat _ _ (by omega) (by omega), show 4294967295 = 2 ^ 32 - 1 by rfl, Nat.and_two_pow_sub_one_eq_mod, ← hl]
  have hx0 : ∀ W, (Instr.index 104 (.agg #[.int .u64 (h : Int), .int .u64 (l : Int)]) (.int .i64 0)).run Tryz.prog W = .ok (.int .u64 (h : Int)) W := fun W => run_idx_arr .i64 (i := 0) W Tryz.underlying104 Tryz.underlying22 rfl (by kernel_rfl) (by decide) rfl
  have hx1 : ∀ W, (Instr.index 104 (.agg #[.int .u64 (h : Int), .int .u64 (l : Int)]) (.int .i64 1)).run Tryz.prog W = .ok (.int .u64 (l : Int)) W := fun W => run_idx_arr .i64 (i := 1) W Tryz.underlying104 Tryz.underlying22 rfl (by kernel_rfl) (by decide) rfl
  have H0 := Lib.hid (And.intro hs0 (And.intro hm0 (And.intro hf hb)))
  clear hs0 hm0 hf hb hZ hh hl hli
  go_enter Tryz.func32, Tryz.ntmps32
  go_wp2_with fail
  refine Code.new2 ?_
  intro W1 hb1 hb2 hn1 hz1
  obtain ⟨g1, hg1⟩ : ∃ x, w.heap.size = x := ⟨_, rfl⟩
  obtain ⟨g2, hg2⟩ : ∃ x, w.heap.size + 1 = x := ⟨_, rfl⟩
  rw [hg1] at hb1
  rw [hg2] at hb2
  simp only [hg2]
  simp only [hg1]
  have hgs : w.heap.size ≤ g1 ∧ g1 < g2 := by omega
  have H1 := Lib.hid (And.intro hb1 (And.intro hb2 (And.intro hn1 hgs)))
  clear hb1 hb2 hn1 hz1 hg1 hg2 hgs hand hhi
  go_loopw [12] (fun i wr => ∃ j : Nat, ∃ s A n c, i = .int .i64 (j : Int) ∧ j ≤ 2 ∧ Hid (Blk wr g1 35 #[.bool s, .slice A n c] ∧ Blk wr g2 35 #[.bool false, .slice none 0 0] ∧ WI wr (.agg #[.bool s, .slice A n c]) ((lfN X h l j : Nat) : Int) ∧ New w wr)) (fun i _ => 2 - (intOf i).toNat)
  case atStart =>
    exact ⟨0, s0, A0, n0, c0, rfl, by omega, H1.out.1, H1.out.2.1, WI.new ⟨s0, A0, n0, c0, rfl, H0.out.1, H0.out.2.1⟩ H1.out.2.2.1, H1.out.2.2.1⟩
  case round =>
    have HG := Lib.hid H1.out.2.2.2
    clear H1
    obtain ⟨j, s, A, n, c, rfl, hj, HI⟩ := hrel
    obtain ⟨wo, rfl⟩ : ∃ wo : World, wo = wr := ⟨_, rfl⟩
    have hc10 := HI.out.1.cell 0 (u := .bool s) rfl
    have hc11 := HI.out.1.cell 1 (u := .slice A n c) rfl
    have hf10 := HI.out.1.frozen 0
    have hf11 := HI.out.1.frozen 1
    by_cases hlt : j < 2
    · obtain ⟨x, hxb, hix, hst⟩ : ∃ x : Nat, x < 4294967296 ∧ (∀ W, (Instr.index 104 (.agg #[.int .u64 (h : Int), .int .u64 (l : Int)]) (.int .i64 (j : Int))).run Tryz.prog W = .ok (.int .u64 (x : Int)) W) ∧ lfN X h l j * 4294967296 + x = lfN X h l (j + 1) := by
        rcases (by omega : j = 0 ∨ j = 1) with rfl | rfl
        · exact ⟨h, hhb, hx0, by rw [lfN_0, lfN_1]⟩
        · exact ⟨l, hlb, hx1, by rw [lfN_1, lfN_2]⟩
      have hle : lfN X h l (j + 1) ≤ Z := by rw [← H0.out.2.2.1]; exact lfN_le (by omega)
      obtain ⟨p, hp⟩ : ∃ p, lfN X h l j * 4294967296 = p := ⟨_, rfl⟩
      have hZt := H0.out.2.2.2
      have HS := Lib.hid (And.intro hp (And.intro (show p + x = lfN X h l (j + 1) by rw [← hp]; exact hst) (And.intro (show lfN X h l j < topN by omega) (And.intro (show p < topN by omega) (show lfN X h l (j + 1) < topN by omega)))))
      have gw : IntKind.i64.wrap (x : Int) = (x : Int) := IntWalk.i64_in _ (by omega)
      have HN0 : Hid (New wo wo.drew) := (Chg.refl _ wo).drew
      have htop : 4294967296 < topN := by exact Nat.lt_of_lt_of_le (show 4294967296 < powN 2 by decide) (powN_le (b := 512) (by omega))
      have HT := Lib.hid htop
      have HX := Lib.hid (And.intro hx0 hx1)
      clear hx0 hx1 hst hle hp hZt htop
      go_wp2_with fail
      go_region_with (first
        | (go_at_call 44; (with_reducible refine (from_b 4294967296 _ (by omega) (by omega)).mono ?_); rintro e w5 ⟨s5, A5, n5, c5, rfl, H5⟩; have HN5 : Hid (New wo w5) := HN0.out.new H5.out.2; have hd10 := HN5.out.cell hc10 (fun h => h); have hd11 := HN5.out.cell hc11 (fun h => h))
        | (go_at_call 62; (with_reducible refine (wmul_n _ _ _ 4294967296 p HS.out.1 _ (HI.out.2.2.1.new HN5.out) H5.out.1 HS.out.2.2.1 HT.out HS.out.2.2.2.1).mono ?_); rintro e w6 ⟨s6, A6, n6, c6, rfl, H6⟩; have HN6 : Hid (New wo w6) := HN5.out.new H6.out.2; have he10 := HN6.out.cell hc10 (fun h => h); have he11 := HN6.out.cell hc11 (fun h => h); have hf10 := (HI.out.1.chg HN6.out (fun h => h)).frozen 0; have hf11 := (HI.out.1.chg HN6.out (fun h => h)).frozen 1))
      all_goals
        clear hc10 hc11 hd10 hd11 he10 he11 hf10 hf11
        have hb6 := HI.out.1.chg HN6.out (fun h => h)
        have hch := Chg.at2 w6 g1 (.bool s6) (.slice A6 n6 c6)
        have hg2 : Blk w6 g2 35 #[.bool false, .slice none 0 0] := HI.out.2.1.chg HN6.out (fun h => h)
        have H7 : Hid (Blk ((w6.setCell ⟨g1, 0, none⟩ (.bool s6)).setCell ⟨g1, 1, none⟩ (.slice A6 n6 c6)) g1 35 #[.bool s6, .slice A6 n6 c6] ∧ Blk ((w6.setCell ⟨g1, 0, none⟩ (.bool s6)).setCell ⟨g1, 1, none⟩ (.slice A6 n6 c6)) g2 35 #[.bool false, .slice none 0 0] ∧ WI ((w6.setCell ⟨g1, 0, none⟩ (.bool s6)).setCell ⟨g1, 1, none⟩ (.slice A6 n6 c6)) (.agg #[.bool s6, .slice A6 n6 c6]) (p : Int) ∧ New w ((w6.setCell ⟨g1, 0, none⟩ (.bool s6)).setCell ⟨g1, 1, none⟩ (.slice A6 n6 c6))) :=
          ⟨hb6.set2 _ _, hg2.chg hch (by have := HG.out; omega), H6.out.1.store hb6 (noInt_two _ _ _ _) hch, Chg.owned (HI.out.2.2.2.new HN6.out) hch (fun k e => by have := HG.out; omega)⟩
        generalize (w6.setCell ⟨g1, 0, none⟩ (.bool s6)).setCell ⟨g1, 1, none⟩ (.slice A6 n6 c6) = w7 at H7 ⊢
        clear hb6 hch hg2 H5 H6 HN5 HN6 HI HN0
        have hc10 := H7.out.1.cell 0 (u := .bool s6) rfl
        have hc11 := H7.out.1.cell 1 (u := .slice A6 n6 c6) rfl
        have HN0 : Hid (New w7 w7.drew) := (Chg.refl _ w7).drew
        go_wp2_with fail
        go_region_with (first
          | (go_at_call 44; (with_reducible refine (from_b (x : Int) _ (by omega) (by omega)).mono ?_); rintro e w8 ⟨s8, A8, n8, c8, rfl, H8⟩; have HN8 : Hid (New w7 w8) := HN0.out.new H8.out.2; have hd10 := HN8.out.cell hc10 (fun h => h); have hd11 := HN8.out.cell hc11 (fun h => h))
          | (go_at_call 58; (with_reducible refine (wadd_n _ _ p x _ HS.out.2.1 _ (H7.out.2.2.1.new HN8.out) H8.out.1 HS.out.2.2.2.2).mono ?_); rintro e w9 ⟨s9, A9, n9, c9, rfl, H9⟩; have HN9 : Hid (New w7 w9) := HN8.out.new H9.out.2; have he10 := HN9.out.cell hc10 (fun h => h); have he11 := HN9.out.cell hc11 (fun h => h); have hf10 := (H7.out.1.chg HN9.out (fun h => h)).frozen 0; have hf11 := (H7.out.1.chg HN9.out (fun h => h)).frozen 1))
        all_goals
          clear hc10 hc11 hd10 hd11 he10 he11 hf10 hf11
          go_wp2
          go_roundw
          case rel =>
            have hb9 := H7.out.1.chg HN9.out (fun h => h)
            have hch := Chg.at2 w9 g1 (.bool s9) (.slice A9 n9 c9)
            exact ⟨j + 1, s9, A9, n9, c9, by go_num, by omega, hb9.set2 _ _, (H7.out.2.1.chg HN9.out (fun h => h)).chg hch (by have := HG.out; omega), H9.out.1.store hb9 (noInt_two _ _ _ _) hch, Chg.owned (H7.out.2.2.2.new HN9.out) hch (fun k e => by have := HG.out; omega)⟩
          case measure => simp [intOf]; omega
    · obtain rfl : j = 2 := by omega
      have hb2 := HI.out.2.1
      have x0 := hb2.cell 0 (u := .bool false) rfl
      have x1 := hb2.cell 1 (u := .slice none 0 0) rfl
      have f0 := hb2.frozen 0
      have f1 := hb2.frozen 1
      have HF := Lib.hid (And.intro hx0 hx1)
      clear hb2 hx0 hx1 hf10 hf11
      go_wp2
      obtain ⟨i1, i2, i3, i4⟩ := HI.out
      rw [H0.out.2.2.1] at i3
      refine bodyPost_ret (res_c rfl _ rfl (aggInt.load (i2.set2 _ _))) rfl ⟨s, A, n, c, rfl, i3.store i2 (noInt_two _ _ _ _) (Chg.at2 _ _ _ _), ?_⟩
      exact Chg.owned i4 (Chg.at2 _ _ _ _) (fun k e => by have := HG.out; omega)
end Go.Proofs.YtmpkaimhjdkheaaGreatDoor
