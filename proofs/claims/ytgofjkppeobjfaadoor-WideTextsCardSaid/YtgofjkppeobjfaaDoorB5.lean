/- The parts TextD, TextE, TextG, TextH of the proof, in one text. -/
import Derived.Deep.RegionHeld3
import Derived.Test.YtgofjkppeobjfaaDoorB4
set_option linter.unusedSimpArgs false
set_option linter.unusedVariables false

namespace Go.Proofs.YtgofjkppeobjfaaDoor
set_option linter.unusedVariables false
open Go.RowKit Go.Mem Go.Dig
open Go.Lib (decDigits)

/-- The library's table of powers of ten lies as its text lays it. -/
def PowTab (w : World) : Prop := Lib.TabIs Tryd.prog w "internal/strconv.uint64pow10" .u64 Lib.pow10Tab
theorem PowTab.chg {S : Nat → Prop} {w w' : World} (h : PowTab w) (hc : Chg S w w') (hs : ∀ g, Tryd.prog.globalNamed "internal/strconv.uint64pow10" = some g → ¬ S g) : PowTab w' := by
  unfold PowTab Lib.TabIs World.var? at h ⊢
  cases hg : Tryd.prog.globalNamed "internal/strconv.uint64pow10" with
  | none => rw [hg] at h; simp at h
  | some g =>
    rw [hg] at h
    simp only [Option.bind_some] at h ⊢
    cases ho : w.heap[g]? with
    | none => rw [ho] at h; simp at h
    | some o =>
      rw [hc.heap ho (hs g hg)]
      rw [ho] at h
      exact h
theorem PowTab.new {w w' : World} (h : PowTab w) (hc : New w w') : PowTab w' := h.chg hc (fun _ _ h => h)
theorem grow_new (w : World) (k : Nat) (os : Array Obj) : New w (Sort.grow (w.drewN k) os) := by
  refine ⟨rfl, rfl, rfl, by simp [Sort.grow, World.drewN], fun j hj _ => ?_⟩
  simp only [Sort.grow, World.drewN]
  rw [Array.getElem?_append_left hj]

theorem itoa_any (d : Nat) (hd : d < 1000000000) (w : World) (ht : PowTab w) :
    Calls Tryd.prog 55 #[.int .i64 (d : Int)] w fun e w' => e = .returned (.string (St (decDigits d))) ∧ New w w' := by
  refine (Tryd.strconv_Itoa (d : Int) (by omega) (by omega) w ht).mono ?_
  rintro e w' ⟨rfl, k, os, rfl⟩
  refine ⟨?_, grow_new _ _ _⟩
  have : Lib.itoa (d : Int) = decDigits d := by
    unfold Lib.itoa
    rw [if_neg (by omega), Int.toNat_natCast]
  rw [this]
  rfl
theorem repeatL_rep (c : Nat) : Lib.repeatL [48] c = List.replicate c 48 := by
  induction c with
  | zero => rfl
  | succ c ih => rw [Lib.repeatL, ih, List.replicate_succ]; rfl
theorem repeat_any (c : Nat) (hc : c ≤ 9) (w : World) :
    Calls Tryd.prog 56 #[.string ⟨#[48]⟩, .int .i64 (c : Int)] w fun e w' => e = .returned (.string (St (List.replicate c 48))) ∧ New w w' := by
  refine (Tryd.strings_Repeat ⟨#[48]⟩ c w (by omega) (by rw [show (⟨#[48]⟩ : ByteArray).size = 1 by rfl]; omega)).mono ?_
  rintro e w' ⟨rfl, h⟩
  refine ⟨?_, New.of_below h⟩
  rw [show (⟨#[48]⟩ : ByteArray).data.toList = [48] by rfl, repeatL_rep]
  rfl
theorem elemStrs : Elem Tryd.prog 30 9 (.string ⟨#[]⟩) 16 := Elem.mk' Tryd.underlying30 (by kernel_rfl) rfl

/-- The parts of a text, the last first. -/
def joinR (ps : List (List UInt8)) : List UInt8 := ps.reverse.flatten
theorem joinR_snoc (ps : List (List UInt8)) (p : List UInt8) : joinR (ps ++ [p]) = p ++ joinR ps := by simp [joinR]
def StrI (T : List UInt8) (V : Nat) (ps : List (List UInt8)) : Prop := (if V = 0 then joinR ps else decDigits V ++ joinR ps) = T
theorem str_more {T : List UInt8} {V : Nat} {ps : List (List UInt8)} (h : StrI T V ps) (hq : 0 < V / 1000000000) : StrI T (V / 1000000000) (ps ++ [Txt.pad 9 (V % 1000000000)]) := by
  unfold StrI at h ⊢
  rw [if_neg (by omega)] at h ⊢
  have e := Txt.dec_pad 9 (V / 1000000000) (V % 1000000000) (Nat.mod_lt _ (by omega)) hq
  rw [show V / 1000000000 * 10 ^ 9 + V % 1000000000 = V by omega] at e
  rw [← h, e, joinR_snoc, List.append_assoc]
theorem str_last {T : List UInt8} {V : Nat} {ps : List (List UInt8)} (h : StrI T V ps) (h0 : V ≠ 0) (hq : V / 1000000000 = 0) : StrI T 0 (ps ++ [decDigits (V % 1000000000)]) := by
  unfold StrI at h ⊢
  rw [if_neg h0] at h
  rw [if_pos rfl, joinR_snoc, Nat.mod_eq_of_lt (by omega), h]
theorem pad9 {d : Nat} (hd : d < 1000000000) : List.replicate (9 - (decDigits d).length) 48 ++ decDigits d = Txt.pad 9 d := (Txt.pad_dec 9 d (by omega) (by omega)).symm
def strs (ps : List (List UInt8)) : List Value := ps.map (fun p => Value.string (St p))
theorem strs_one (ps : List (List UInt8)) : ∀ u ∈ strs ps, u.oneCell' = true := by
  intro u hu
  obtain ⟨_, _, rfl⟩ := List.mem_map.1 hu
  rfl
theorem strs_len (ps : List (List UInt8)) : (strs ps).length = ps.length := by simp [strs]

theorem StrI.len {T : List UInt8} {V : Nat} {ps : List (List UInt8)} (h : StrI T V ps) (hl : ps.length ≤ (joinR ps).length) : ps.length ≤ T.length := by
  unfold StrI at h
  rw [← h]
  split
  · exact hl
  · rw [List.length_append]; omega
theorem dec_words {Z n : Nat} (h : Z < 4294967296 ^ n) (hn : 1 ≤ n) : (decDigits Z).length ≤ 10 * n := by
  refine Txt.dec_len_le (by omega) (Nat.lt_of_lt_of_le h ?_)
  rw [Nat.pow_mul]
  exact Nat.pow_le_pow_left (by decide) n
/-- What the first loop of String holds. -/
def S1 (w : World) (T : List UInt8) (R : Option Addr) (m d : Nat) (PA : Option Addr) (k pc V : Nat) (ps : List (List UInt8)) (wr : World) : Prop :=
  WM wr R m d V ∧ StrI T V ps ∧ ps.length = k ∧ k ≤ (joinR ps).length ∧ wr.ownsRow w.heap.size 9 1 (.slice PA k pc) k (strs ps) ∧ New w wr
theorem chg_below {B : Nat} {w w' : World} (h : Below B w w') : Chg (fun j => B ≤ j) w w' := ⟨h.os, h.tape, h.output, h.size, fun k _ hn => h.block k (by omega)⟩
/-- What the second loop of String holds. -/
def S2 (wo : World) (gb : Nat) (sgn : List UInt8) (ps : List (List UInt8)) (k : Nat) (wr : World) : Prop :=
  Lib.IsBuilder 88 5 gb gb (Lib.byteCells (sgn ++ (ps.drop k).reverse.flatten)) wr ∧ Chg (fun j => gb ≤ j) wo wr
theorem flat_step {ps : List (List UInt8)} {k : Nat} {p : List UInt8} (h : ps[k]? = some p) : (ps.drop k).reverse.flatten = (ps.drop (k + 1)).reverse.flatten ++ p := by
  obtain ⟨hk, hp⟩ := List.getElem?_eq_some_iff.1 h
  rw [List.drop_eq_getElem_cons hk, hp]
  simp
theorem flat_le (ps : List (List UInt8)) (k : Nat) : (ps.drop k).reverse.flatten.length ≤ (joinR ps).length := by
  unfold joinR
  rw [← List.take_append_drop k ps, List.reverse_append, List.flatten_append, List.length_append]
  simp
theorem strCells_St (p : List UInt8) : Lib.strCells (St p) = Lib.byteCells p := by
  unfold Lib.strCells Lib.byteCells
  rw [St_dat]
theorem strs_at {ps : List (List UInt8)} {k : Nat} {u : Value} (h : (strs ps)[k]? = some u) : ∃ p, ps[k]? = some p ∧ u = .string (St p) := by
  simp only [strs, List.getElem?_map, Option.map_eq_some_iff] at h
  obtain ⟨c, h1, h2⟩ := h
  exact ⟨c, h1, h2.symm⟩
theorem S1.next {w2 wo w3 w6 w7 : World} {T : List UInt8} {R : Option Addr} {m d : Nat} {PA : Option Addr} {k pc V : Nat} {ps : List (List UInt8)} {g3 T1 m1 V1 c7 : Nat} {A7 : Option Addr} {p : List UInt8} {o : Obj} (h : S1 w2 T R m d PA k pc V ps wo) (hg : wo.heap.size ≤ g3) (hn3 : New wo w3) (hwm : WM w3 (some ⟨g3, 0, none⟩) T1 m1 V1) (hn6 : New w3 w6)
    (hown : w7.ownsRow w2.heap.size 9 1 (.slice A7 (k + 1) c7) (k + 1) (strs ps ++ strs [p])) (hgr : (w6.alloc o).grownBy w7 (blk PA)) (hst : StrI T V1 (ps ++ [p])) (hp : 1 ≤ p.length) : S1 w2 T (some ⟨g3, 0, none⟩) T1 m1 A7 (k + 1) c7 V1 (ps ++ [p]) w7 := by
  obtain ⟨h1, h2, h3, h4, h5, h6⟩ := h
  have hch : Chg (fun j => blk PA = some j) w6 w7 := ((Chg.refl _ w6).alloc o).grown hgr (fun j hj _ => hj)
  refine ⟨(hwm.new hn6).chg hch (fun j hj e => ?_), hst, by simp [h3], by rw [joinR_snoc, List.length_append]; omega, by rw [show strs (ps ++ [p]) = strs ps ++ strs [p] by simp [strs]]; exact hown, ?_⟩
  · have := (own_blk_le h5 e).2
    simp [blk] at hj
    omega
  · exact ((h6.new hn3).new hn6).trans hch (fun j hj e => by have := (own_blk_le h5 e).1; omega)
theorem rd_str {w : World} {b : ByteArray} {l : List UInt8} {e : TypeId} {g : Nat} (hg : g = w.heap.size) (hb : b = St l) : Rd (w.alloc (.cells #[.string b] e)) (some ⟨g, 0, none⟩) 1 (strs [l]) := by
  subst hg hb; exact Rd.lit (strs [l]) rfl

set_option maxHeartbeats 4000000 in
set_option maxRecDepth 100000 in
theorem wstring_any (v : Value) (z : Int) (w : World) (hv : WI w v z) (hpt : PowTab w) (hz : z.natAbs < 2 ^ 900000) :
    Calls Tryd.prog 18 #[v] w fun e w' => e = .returned (.string (St (Txt.text z))) ∧ New w w' := by
  obtain ⟨s, A, n, c, rfl, hs, hm⟩ := hv
  have hn := bz_wlen hm hz
  clear hz
  obtain ⟨T, hT⟩ : ∃ T, Txt.text z = T := ⟨_, rfl⟩
  rw [hT]
  by_cases h0 : n = 0
  · subst h0
    have hz0 : z.natAbs = 0 := hm.pos.1 rfl
    obtain rfl : [48] = T := by
      rw [← hT]; unfold Txt.text; rw [if_neg (by omega), hz0, Txt.dec_small (by omega)]; rfl
    clear hm hT hz0 hs hpt
    go_enter Tryd.func18, Tryd.ntmps18
    go_wp2
    go_ret
    exact ⟨rfl, (Chg.refl _ w).alloc _⟩
  · have hn0 : ((n : Int) == 0) = false := by simp; omega
    obtain ⟨Z, hZ⟩ : ∃ Z, z.natAbs = Z := ⟨_, rfl⟩
    rw [hZ] at hm
    have hZ1 : Z ≠ 0 := fun h => h0 (hm.pos.2 h)
    obtain ⟨la, hr, hnc, hc, hN⟩ := hm
    have H0 := Lib.hid (And.intro hr (And.intro hN (And.intro hs (And.intro hT (And.intro hZ hpt)))))
    have hbW := fun (W : World) => Rd.new (w := w) (w' := W) hr
    clear hr hN hs hT hZ hpt hbW
    go_enter Tryd.func18, Tryd.ntmps18
    go_upto_region 3 with fail
    refine Code.new1 ?_
    intro W hb1 hnW hzW
    have hk1 := hb1.cell 1 (u := .slice A n c) rfl
    have HW := Lib.hid (And.intro hb1 hnW)
    clear hb1 hnW hzW
    go_wp2_with (first
      | (at_make; refine wpList_mk elemU32 rfl rfl _ _ rfl (n := n) rfl rfl (by omega) (by omega) (by omega) (by simp only [maxLen]; omega) ?_; intro w1 hown1 hg1 hz1; have HMK := Lib.hid (And.intro hown1 (And.intro hg1 hz1)); have hk2 := hg1.cell hk1 (fun h => h); clear hown1 hg1 hz1)
      | ((with_reducible refine wpList_cp elemU32 rfl (.tmp 17) (.tmp 19) rfl rfl HMK.out.1 rfl (Nat.le_refl _) ((H0.out.1.new HW.out.2).new HMK.out.2.1) (nv_one _) ?_); intro w2 hown2 hch2; have HCP := Lib.hid (And.intro hown2 hch2); clear hown2 hch2))
    have hnw2 : New w w2 := Chg.owned (HW.out.2.new HMK.out.2.1) HCP.out.2 (fun k e => by have := HW.out.2.size; omega)
    have hb2 : Blk w2 w.heap.size 33 #[.bool s, .slice A n c] := (HW.out.1.chg HMK.out.2.1 (fun h => h)).chg HCP.out.2 (by have := HW.out.1.lt; omega)
    have hZlt : Z < 4294967296 ^ n := H0.out.2.1.lt (by omega) (by have := H0.out.1.len; rw [nv_length] at this; omega)
    obtain ⟨TD, hTD⟩ : ∃ x, decDigits Z = x := ⟨_, rfl⟩
    have hTl : TD.length ≤ 9000000 := by rw [← hTD]; have := dec_words hZlt (by omega); omega
    have hS : S1 w2 TD (some ⟨W.heap.size, 0, none⟩) n n none 0 0 Z [] w2 := by
      refine ⟨⟨la, ?_, Nat.le_refl _, by omega, H0.out.2.1⟩, ?_, rfl, Nat.zero_le _, World.ownsRow_nil w2 w2.heap.size _ _, Chg.refl _ _⟩
      · have := Rd.of_own HCP.out.1
        rwa [List.drop_eq_nil_of_le (by simp), List.append_nil] at this
      · unfold StrI; rw [if_neg hZ1, hTD]; simp [joinR]
    obtain ⟨gr, hgr⟩ : ∃ x, W.heap.size = x := ⟨_, rfl⟩
    rw [hgr] at hS
    simp only [hgr]
    have H2 := Lib.hid (And.intro hS (And.intro hnw2 (And.intro hb2 hTD)))
    clear hnw2 hb2 hZlt hTD hS hgr HCP HMK hk1 hk2
    go_loopw [3, 4, 5, 6] (fun s3 s4 _ _ wr => ∃ (R : Option Addr) (m d : Nat) (PA : Option Addr) (k pc V : Nat) (ps : List (List UInt8)), s3 = .slice R m d ∧ s4 = .slice PA k pc ∧ m ≤ 900000 ∧ Hid (S1 w2 TD R m d PA k pc V ps wr)) (fun s3 s4 _ _ _ => match s3, s4 with | .slice _ m _, .slice _ k _ => if m = 0 then 0 else 9000001 - k | _, _ => 0)
    case atStart => exact ⟨_, n, n, none, 0, 0, Z, [], rfl, rfl, hn, H2.out.1⟩
    case round =>
      obtain ⟨R, m, d, PA, k, pc, V, ps, rfl, rfl, hm, HS⟩ := hrel
      obtain ⟨wo, rfl⟩ : ∃ wo : World, wo = wr := ⟨_, rfl⟩
      obtain ⟨hwm, hst, hpl, hpj, hown, hnw⟩ := HS.out
      have hkT : k ≤ 9000000 := by have := hst.len (by omega); omega
      by_cases hm0 : m = 0
      · subst hm0
        have hV0 : V = 0 := hwm.pos.1 rfl
        subst hV0
        obtain ⟨gb, hgb⟩ : ∃ x, wo.heap.size = x := ⟨_, rfl⟩
        have hbo := H2.out.2.2.1.chg hnw (fun h => h)
        have hk0 := ((Chg.refl (fun _ => False) wo).alloc (.cells #[.pointer none, .slice none 0 0] 88)).cell (hbo.cell 0 (u := .bool s) rfl) (fun h => h)
        have hjT : joinR ps = TD := by unfold StrI at hst; rw [if_pos rfl] at hst; exact hst
        have hrd : Rd wo PA k (strs ps) := Rd.of_own hown
        have hblk : ∀ j, blk PA = some j → j < gb := fun j hj => by have := (own_blk_le hown hj).2; omega
        have hneww : New w wo := H2.out.2.1.new hnw
        have hlen : ∀ j, (ps.drop j).reverse.flatten.length ≤ 9000000 := fun j => Nat.le_trans (flat_le ps j) (by rw [hjT]; exact hTl)
        have HP := Lib.hid (And.intro hjT (And.intro hrd (And.intro hblk (And.intro hneww (And.intro hlen (And.intro hpl hgb))))))
        clear hwm hst hpj hown hnw HS hbo hjT hrd hblk hneww hlen hpl
        have fin : ∀ (sgn : List UInt8), sgn.length ≤ 1 → sgn ++ TD = T → ∀ (wr : World), S2 wo gb sgn ps 0 wr → Calls Tryd.prog 59 #[.pointer (some ⟨gb, 0, none⟩)] wr fun e w' => e = .returned (.string (St T)) ∧ Hid (New w w') := fun sgn _ hT wr h => by
          obtain ⟨h1, h2⟩ := h
          obtain ⟨hjT, hrd, hblk, hneww, hlen, hpl, hgb⟩ := HP.out
          rw [List.drop_zero, show ps.reverse.flatten = joinR ps by rfl, hjT, hT] at h1
          refine (Tryd.Builder_String_any gb gb T wr h1 (by have := h2.size; omega)).mono ?_
          rintro e w' ⟨rfl, hb⟩
          exact ⟨rfl, hneww.trans (h2.trans (chg_below hb) (fun _ _ h => h)) (fun j hj e => by have := hneww.size; omega)⟩
        have stp : ∀ (sgn : List UInt8), sgn.length ≤ 1 → ∀ (i : Nat) (p : List UInt8) (wr : World), ps[i]? = some p → S2 wo gb sgn ps (i + 1) wr → Calls Tryd.prog 58 #[.pointer (some ⟨gb, 0, none⟩), .string (St p)] wr fun e w' => (∃ v, e = .returned v) ∧ Hid (S2 wo gb sgn ps i w') := fun sgn hs1 i p wr hp h => by
          obtain ⟨h1, h2⟩ := h
          obtain ⟨hjT, hrd, hblk, hneww, hlen, hpl, hgb⟩ := HP.out
          have hl := hlen i
          rw [flat_step hp, List.length_append] at hl
          refine (Tryd.Builder_WriteString gb gb _ (St p) wr h1 (by simp only [Lib.byteCells, List.length_map, List.length_append, St_size]; omega) (by have := h2.size; omega)).mono ?_
          rintro e w' ⟨rfl, hb, hbel⟩
          refine ⟨⟨_, rfl⟩, ?_, h2.trans (chg_below hbel) (fun _ _ h => h)⟩
          rw [strCells_St, ← Lib.byteCells_append, List.append_assoc, ← flat_step hp] at hb
          exact .inr hb
        have HF := Lib.hid (And.intro fin stp)
        clear fin stp
        obtain ⟨hr, hN, hs, hT, hZ, hpt⟩ := H0.out
        have hTD := H2.out.2.2.2
        have hstart : Lib.IsBuilder 88 5 gb gb [] (wo.alloc (.cells #[.pointer none, .slice none 0 0] 88)) := by rw [← hgb]; exact Lib.fresh_isBuilder _ _ _
        cases s
        · have hsgn : [] ++ TD = T := by
            rw [← hT, ← hTD, ← hZ]; unfold Txt.text; rw [if_neg (by simpa using hs.symm)]; rfl
          have HS := Lib.hid (And.intro hsgn hstart)
          clear hr hN hs hT hZ hpt hTD hsgn hstart
          have HST : Hid (S2 wo gb [] ps k (wo.alloc (.cells #[.pointer none, .slice none 0 0] 88))) := by
            refine ⟨?_, (Chg.refl _ wo).alloc _⟩
            rw [List.drop_eq_nil_of_le (by have := HP.out.2.2.2.2.2.1; omega)]
            exact HS.out.2
          go_wp2_with fail
          clear hk0
          go_loopw [8] (fun i wr => ∃ j : Nat, i = .int .i64 ((j : Int) - 1) ∧ j ≤ k ∧ Hid (S2 wo gb [] ps j wr)) (fun i _ => (intOf i + 1).toNat)
          case atStart => exact ⟨k, rfl, Nat.le_refl _, HST⟩
          case round =>
            obtain ⟨j, rfl, hjk, HI⟩ := hrel
            obtain ⟨wq, rfl⟩ : ∃ wq : World, wq = wr := ⟨_, rfl⟩
            by_cases hj0 : j = 0
            · subst hj0
              rw [show (((0 : Nat) : Int) - 1) = -1 by rfl]
              go_wp2_with fail
              refine (HF.out.1 [] (by simp) HS.out.1 wq HI.out).mono ?_
              rintro e w9 ⟨rfl, H9⟩
              go_wp2
              go_ret
              exact ⟨rfl, H9.out⟩
            · obtain ⟨i, rfl⟩ : ∃ i, j = i + 1 := ⟨j - 1, by omega⟩
              rw [show (((i + 1 : Nat) : Int) - 1) = (i : Int) by omega]
              obtain ⟨hjT, hrd, hblk, hneww, hlen, hpl, hgb'⟩ := HP.out
              obtain ⟨ad, u, rfl, hu, hcu⟩ := (hrd.chg HI.out.2 (fun q hq _ e => by have := hblk q hq; omega)).at_ (show i < k by omega)
              obtain ⟨pp, hpp, rfl⟩ := strs_at hu
              have hst := HF.out.2 [] (by simp) i pp wq hpp HI.out
              have HST2 := Lib.hid hst
              clear hjT hrd hblk hneww hlen hpl hgb' hu hpp hst hj0
              go_wp2_with fail
              refine HST2.out.mono ?_
              rintro e w9 ⟨⟨ve, rfl⟩, H9⟩
              go_wp2
              go_roundw
              case rel => exact ⟨i, rfl, by omega, H9⟩
              case measure => simp [intOf]
        · have hsgn : [45] ++ TD = T := by
            rw [← hT, ← hTD, ← hZ]; unfold Txt.text; rw [if_pos (by simpa using hs.symm)]; rfl
          have HS := Lib.hid (And.intro hsgn hstart)
          clear hr hN hs hT hZ hpt hTD hsgn hstart
          go_wp2_with fail
          refine (Tryd.Builder_WriteByte gb gb [] 45 _ HS.out.2 (by simp) (by have := hgb; simp; omega)).mono ?_
          rintro e w8 ⟨rfl, hb8, hbel8⟩
          have HST : Hid (S2 wo gb [45] ps k w8) := by
            refine ⟨.inr ?_, ((Chg.refl _ wo).alloc _).trans (chg_below hbel8) (fun _ _ h => h)⟩
            rw [List.drop_eq_nil_of_le (by have := HP.out.2.2.2.2.2.1; omega)]
            exact hb8
          clear hb8 hbel8
          go_wp2_with fail
          clear hk0
          go_loopw [8] (fun i wr => ∃ j : Nat, i = .int .i64 ((j : Int) - 1) ∧ j ≤ k ∧ Hid (S2 wo gb [45] ps j wr)) (fun i _ => (intOf i + 1).toNat)
          case atStart => exact ⟨k, rfl, Nat.le_refl _, HST⟩
          case round =>
            obtain ⟨j, rfl, hjk, HI⟩ := hrel
            obtain ⟨wq, rfl⟩ : ∃ wq : World, wq = wr := ⟨_, rfl⟩
            by_cases hj0 : j = 0
            · subst hj0
              rw [show (((0 : Nat) : Int) - 1) = -1 by rfl]
              go_wp2_with fail
              refine (HF.out.1 [45] (by simp) HS.out.1 wq HI.out).mono ?_
              rintro e w9 ⟨rfl, H9⟩
              go_wp2
              go_ret
              exact ⟨rfl, H9.out⟩
            · obtain ⟨i, rfl⟩ : ∃ i, j = i + 1 := ⟨j - 1, by omega⟩
              rw [show (((i + 1 : Nat) : Int) - 1) = (i : Int) by omega]
              obtain ⟨hjT, hrd, hblk, hneww, hlen, hpl, hgb'⟩ := HP.out
              obtain ⟨ad, u, rfl, hu, hcu⟩ := (hrd.chg HI.out.2 (fun q hq _ e => by have := hblk q hq; omega)).at_ (show i < k by omega)
              obtain ⟨pp, hpp, rfl⟩ := strs_at hu
              have hst := HF.out.2 [45] (by simp) i pp wq hpp HI.out
              have HST2 := Lib.hid hst
              clear hjT hrd hblk hneww hlen hpl hgb' hu hpp hst hj0
              go_wp2_with fail
              refine HST2.out.mono ?_
              rintro e w9 ⟨⟨ve, rfl⟩, H9⟩
              go_wp2
              go_roundw
              case rel => exact ⟨i, rfl, by omega, H9⟩
              case measure => simp [intOf]
      · have hmp : (0 : Int) < (m : Int) := by omega
        have hmp' : 0 < m := by omega
        have hV0 : V ≠ 0 := fun h => hm0 (hwm.pos.2 h)
        have hdw := divWord_any R m d V 1000000000 wo hwm (by omega) (by omega) (by omega)
        obtain ⟨lo, hlo⟩ : ∃ x, V % 1000000000 = x := ⟨_, rfl⟩
        obtain ⟨hi, hhi⟩ : ∃ x, V / 1000000000 = x := ⟨_, rfl⟩
        rw [hlo, hhi] at hdw
        have hlob : lo < 1000000000 := by omega
        have hll := Txt.dec_len_le (u := lo) (k := 9) (by omega) (by omega)
        obtain ⟨tx, htx⟩ : ∃ x, St (decDigits lo) = x := ⟨_, rfl⟩
        have htxs : tx.size = (decDigits lo).length := by rw [← htx, St_size]
        have htx9 : tx.size ≤ 9 := by omega
        have hit := fun W h => itoa_any lo hlob W h
        rw [htx] at hit
        have HD := Lib.hid (And.intro hdw (And.intro hit (And.intro htx (And.intro htxs (And.intro hlo hhi)))))
        have HX := Lib.hid (And.intro hwm (And.intro hst (And.intro hpl (And.intro hpj (And.intro hown hnw)))))
        clear hdw hit htx htxs hlo hhi hwm hst hpl hpj hown hnw hll
        go_wp2_with fail
        refine HD.out.1.mono ?_
        rintro e w3 ⟨l3, g3, rfl, H3⟩
        go_wp2_with fail
        refine (trim_wm _ _ _ l3 w3 H3.out.1 H3.out.2.1 (Nat.le_refl _) (by omega)).mono ?_
        rintro e w4 ⟨T1, rfl, HT1, rfl⟩
        go_wp2_with fail
        refine (HD.out.2.1 w3 (((H0.out.2.2.2.2.2.new H2.out.2.1).new HX.out.2.2.2.2.2).new H3.out.2.2.2.2)).mono ?_
        rintro e w5 ⟨rfl, hn5⟩
        have HN5 := Lib.hid hn5
        have hT1 := HT1.out.1.pos
        rw [H3.out.2.2.1] at hT1
        clear hn5
        by_cases hq : hi = 0
        · obtain rfl : T1 = 0 := hT1.2 hq
          have HQ := Lib.hid hq
          clear hT1 hq
          go_wp2_with (at_builtin; refine wpList_app elemStrs rfl _ _ rfl rfl (own_chg (own_chg (own_chg HX.out.2.2.2.2.1 H3.out.2.2.2.2 (fun _ _ h => h)) HN5.out (fun _ _ h => h)) ((Chg.refl (fun _ => False) w5).alloc (.cells #[.string tx] 9)) (fun _ _ h => h)) rfl (rd_str rfl HD.out.2.2.1.symm) (strs_one _) (by simp only [maxLen]; omega) (by omega) (by have := HX.out.2.2.2.2.2.size; have := H3.out.2.2.2.2.size; have := HN5.out.size; simp; omega) ?_; intro A7 c7 w7 hown7 hg7 hat7; have HA7 := Lib.hid (And.intro hown7 (And.intro hg7 hat7)); clear hown7 hg7 hat7)
          go_roundw
          case rel =>
            refine ⟨_, 0, m, A7, k + 1, c7, hi, ps ++ [decDigits lo], rfl, rfl, by omega, ?_⟩
            have hst := str_last HX.out.2.1 hV0 (by have := HD.out.2.2.2.2.2; have := HQ.out; omega)
            rw [HD.out.2.2.2.2.1, ← HQ.out] at hst
            have hwm3 := HT1.out.1
            rw [H3.out.2.2.1] at hwm3
            exact S1.next HS.out H3.out.2.2.2.1 H3.out.2.2.2.2 hwm3 HN5.out HA7.out.1 HA7.out.2.1 hst (Txt.dec_len_pos _)
          case measure =>
            show (if 0 = 0 then 0 else 9000001 - (k + 1)) < (if m = 0 then 0 else 9000001 - k)
            rw [if_pos rfl, if_neg (by omega)]
            omega
        · have hT1p : (0 : Int) < (T1 : Int) := by
            rcases Nat.eq_zero_or_pos T1 with h | h
            · exact absurd (hT1.1 h) hq
            · omega
          have hT1p' : 0 < T1 := by omega
          have HQ := Lib.hid hq
          clear hT1 hq
          obtain ⟨cn, hcn⟩ : ∃ x, 9 - tx.size = x := ⟨_, rfl⟩
          have hcni : (9 : Int) - ((tx.size : Nat) : Int) = (cn : Int) := by omega
          have hcnb : cn ≤ 9 := by omega
          go_wp2_with fail
          refine (repeat_any cn hcnb w5).mono ?_
          rintro e w6 ⟨rfl, hn6⟩
          obtain ⟨zs, hzs⟩ : ∃ x, St (List.replicate cn 48) = x := ⟨_, rfl⟩
          rw [hzs]
          have hzss : zs.size = cn := by rw [← hzs, St_size]; simp
          have hsz : ¬ 9223372036854775807 < zs.size + tx.size := by omega
          have hcat : zs ++ tx = St (Txt.pad 9 lo) := by
            rw [← hzs, ← HD.out.2.2.1, St_app, ← hcn, HD.out.2.2.2.1, pad9 hlob]
          have H6 := Lib.hid (And.intro hn6 hcat)
          clear hn6 hzs hcn hcat hzss
          go_wp2_with (at_builtin; refine wpList_app elemStrs rfl _ _ rfl rfl (own_chg (own_chg (own_chg (own_chg HX.out.2.2.2.2.1 H3.out.2.2.2.2 (fun _ _ h => h)) HN5.out (fun _ _ h => h)) H6.out.1 (fun _ _ h => h)) ((Chg.refl (fun _ => False) w6).alloc (.cells #[.string (zs ++ tx)] 9)) (fun _ _ h => h)) rfl (rd_str rfl H6.out.2) (strs_one _) (by simp only [maxLen]; omega) (by omega) (by have := HX.out.2.2.2.2.2.size; have := H3.out.2.2.2.2.size; have := HN5.out.size; have := H6.out.1.size; simp; omega) ?_; intro A7 c7 w7 hown7 hg7 hat7; have HA7 := Lib.hid (And.intro hown7 (And.intro hg7 hat7)); clear hown7 hg7 hat7)
          go_roundw
          case rel =>
            refine ⟨_, T1, m, A7, k + 1, c7, hi, ps ++ [Txt.pad 9 lo], rfl, rfl, by have := HT1.out.2; omega, ?_⟩
            have hst := str_more HX.out.2.1 (by have := HD.out.2.2.2.2.2; have := HQ.out; omega)
            rw [HD.out.2.2.2.2.1, HD.out.2.2.2.2.2] at hst
            have hwm3 := HT1.out.1
            rw [H3.out.2.2.1] at hwm3
            exact S1.next HS.out H3.out.2.2.2.1 H3.out.2.2.2.2 hwm3 (HN5.out.new H6.out.1) HA7.out.1 HA7.out.2.1 hst (by rw [Txt.pad_len]; omega)
          case measure =>
            show (if T1 = 0 then 0 else 9000001 - (k + 1)) < (if m = 0 then 0 else 9000001 - k)
            rw [if_neg (by omega), if_neg (by omega)]
            omega
end Go.Proofs.YtgofjkppeobjfaaDoor

namespace Go.Proofs.YtgofjkppeobjfaaDoor
set_option linter.unusedVariables false
open Go.RowKit Go.Mem Go.Dig
open Go.Lib (decDigits)

def tpow (k : Nat) : Nat := 10 ^ k
/-- Texts of what is below this have at most 4934 bytes. -/
def dmax : Nat := tpow 4933
theorem pow_93 (k : Nat) : 2 ^ (93 * k) ≤ tpow (28 * k) := by
  unfold tpow
  rw [Nat.pow_mul, Nat.pow_mul]
  exact Nat.pow_le_pow_left (by decide) k
theorem tpow_add (a b : Nat) : tpow (a + b) = tpow a * tpow b := Nat.pow_add 10 a b
theorem powN_two (k m : Nat) (h : 32 * k = m) : powN k = 2 ^ m := by
  subst h
  unfold powN
  rw [Nat.pow_mul]
theorem pow_split (a b m : Nat) (h : a + b = m) : 2 ^ m = 2 ^ a * 2 ^ b := by subst h; exact Nat.pow_add 2 a b
theorem tpow_split (a b m : Nat) (h : a + b = m) : tpow m = tpow a * tpow b := by subst h; exact tpow_add a b
theorem top_gen (K J a m j : Nat) (h1 : 32 * K = m) (h2 : 93 * j + 16 = m) (h3 : 28 * j + 5 = J) : powN K + 10000 ≤ tpow J := by
  rw [powN_two K m h1, pow_split (93 * j) 16 m h2, tpow_split (28 * j) 5 J h3]
  have h := pow_93 j
  have hp : 1 ≤ 2 ^ (93 * j) := Nat.one_le_two_pow
  have e : tpow 5 = 100000 := rfl
  have e2 : (2 : Nat) ^ 16 = 65536 := rfl
  rw [e, e2]
  generalize 2 ^ (93 * j) = Y at *
  generalize tpow (28 * j) = X at *
  omega
theorem top_dmax : topN + 10000 ≤ dmax := top_gen 512 4933 0 16384 176 (by decide) (by decide) (by decide)
theorem text_short' {z : Int} {k : Nat} (h : z.natAbs < tpow k) (hk : 1 ≤ k) : (Txt.text z).length ≤ k + 1 := Txt.text_len hk h
theorem text_short {z : Int} (h : z.natAbs < dmax) : (Txt.text z).length ≤ 5000 := Nat.le_trans (text_short' (k := 4933) h (by decide)) (by decide)
theorem tpow_le (k m : Nat) (h : 4 * k ≤ m) : tpow k ≤ 2 ^ m := by
  unfold tpow
  refine Nat.le_trans (Nat.pow_le_pow_left (show 10 ≤ 2 ^ 4 by decide) k) ?_
  rw [← Nat.pow_mul]
  exact Nat.pow_le_pow_right (by omega) h
theorem dmax_pow : dmax ≤ 2 ^ 900000 := tpow_le 4933 900000 (by decide)
theorem dmax_pow' : dmax ≤ 2 ^ 1000000 := tpow_le 4933 1000000 (by decide)

/-- Parse of the text of an integer. -/
theorem wparse_text (z : Int) (hz : z.natAbs < dmax) (w : World) :
    Calls Tryd.prog 15 #[.string (St (Txt.text z))] w fun e w' => ∃ s A n c, e = .returned (.tuple #[.agg #[.bool s, .slice A n c], .int .i64 (rgE z)]) ∧ Hid (WI w' (.agg #[.bool s, .slice A n c]) (rg z) ∧ New w w') :=
  wparse_ok _ _ rfl (by rw [St_size]; exact text_short hz) z (Txt.reads_text z) w

set_option maxRecDepth 100000 in
set_option maxHeartbeats 1000000 in
theorem wider_any (v : Value) (z : Int) (w : World) (hv : RN w v z) (hz : z.natAbs < dmax) (E : Bool) (hE : (rgE z == 0) = E) :
    Calls Tryd.prog 24 #[v] w fun e w' => ∃ s A n c, e = .returned (.tuple #[.agg #[.bool s, .slice A n c], .bool E]) ∧ Hid (WI w' (.agg #[.bool s, .slice A n c]) (rg z) ∧ New w w') := by
  obtain ⟨s, A, n, c, rfl, hs, hm⟩ := hv
  have htx := fun W hn => rtext_any (.agg #[.bool s, .slice A n c]) z W (RN.new ⟨s, A, n, c, rfl, hs, hm⟩ hn) (Nat.lt_of_lt_of_le hz dmax_pow')
  have hpa := fun W => wparse_text z hz W
  obtain ⟨b, hb⟩ : ∃ b, St (Txt.text z) = b := ⟨_, rfl⟩
  rw [hb] at htx hpa
  obtain ⟨er, her⟩ : ∃ x, rgE z = x := ⟨_, rfl⟩
  rw [her] at hpa hE
  have HC := Lib.hid (And.intro htx hpa)
  have HE := Lib.hid hE
  clear htx hpa hs hm hb her hE hz
  go_enter Tryd.func24, Tryd.ntmps24
  go_wp2_with fail
  refine Calls.new2 ?_
  intro W hb1 hb2 hnW hzW
  refine (HC.out.1 W hnW).mono ?_
  rintro e w1 ⟨rfl, hn1⟩
  have hc2 := hb2.chg hn1 (fun h => h)
  have H1 := Lib.hid (And.intro hc2 (hnW.new hn1))
  clear hb1 hb2 hnW hzW hn1 hc2
  go_wp2_with fail
  refine (HC.out.2 w1).mono ?_
  rintro e w2 ⟨s2, A2, n2, c2, rfl, H2⟩
  have hn3 : New w2 (w2.alloc (.cells #[.bool s2, .slice A2 n2 c2] 33)) := (Chg.refl _ _).alloc _
  have hk2 := (H1.out.1.chg H2.out.2 (fun h => h)).chg hn3 (fun h => h)
  have g0 := hk2.cell 0 rfl
  have g1 := hk2.cell 1 rfl
  have f0 := hk2.frozen 0
  have f1 := hk2.frozen 1
  have H3 := Lib.hid (And.intro hk2 hn3)
  clear hn3 hk2
  go_wp2
  obtain ⟨hk2, hn3⟩ := H3.out
  refine bodyPost_ret (res_ct rfl _ rfl (aggInt.load (hk2.set2 _ _)) rfl) rfl ⟨s2, A2, n2, c2, ?_, (H2.out.1.new hn3).store hk2 (noInt_two _ _ _ _) (Chg.at2 _ _ _ _), ?_⟩
  · rw [← HE.out]; rfl
  · exact Chg.owned ((H1.out.2.new H2.out.2).new hn3) (Chg.at2 _ _ _ _) (fun k e => by omega)

theorem eq_texts {x a : Int} {b1 b2 : ByteArray} (h1 : St (Txt.text x) = b1) (h2 : St (Txt.text a) = b2) : (b1.toList == b2.toList) = decide (x = a) := by
  rw [Lib.toList_data, Lib.toList_data, ← h1, ← h2, St_dat, St_dat, Bool.eq_iff_iff]
  simp only [beq_iff_eq, decide_eq_true_eq]
  exact ⟨Txt.text_inj, fun h => by rw [h]⟩

set_option maxRecDepth 100000 in
set_option maxHeartbeats 2000000 in
theorem equal_any (v v' : Value) (x a : Int) (w : World) (hx : WI w v x) (ha : RN w v' a) (hpt : PowTab w) (hxb : x.natAbs < dmax) (hab : a.natAbs < dmax) (E : Bool) (hE : decide (x = a) = E) :
    Calls Tryd.prog 17 #[v, v'] w fun e w' => e = .returned (.bool E) ∧ Hid (New w w') := by
  obtain ⟨s, A, n, c, rfl, hs, hm⟩ := hx
  obtain ⟨s', A', n', c', rfl, hs', hm'⟩ := ha
  have hst := fun W hn => wstring_any (.agg #[.bool s, .slice A n c]) x W (WI.new ⟨s, A, n, c, rfl, hs, hm⟩ hn) (hpt.new hn) (Nat.lt_of_lt_of_le hxb dmax_pow)
  have htx := fun W hn => rtext_any (.agg #[.bool s', .slice A' n' c']) a W (RN.new ⟨s', A', n', c', rfl, hs', hm'⟩ hn) (Nat.lt_of_lt_of_le hab dmax_pow')
  obtain ⟨b1, hb1⟩ : ∃ b, St (Txt.text x) = b := ⟨_, rfl⟩
  obtain ⟨b2, hb2⟩ : ∃ b, St (Txt.text a) = b := ⟨_, rfl⟩
  have heq := eq_texts hb1 hb2
  rw [hE] at heq
  rw [hb1] at hst
  rw [hb2] at htx
  have HC := Lib.hid (And.intro hst htx)
  clear hst htx hs hm hs' hm' hb1 hb2 hE hxb hab hpt
  go_enter Tryd.func17, Tryd.ntmps17
  go_wp2_with fail
  refine Code.new2 ?_
  intro W hb1 hb2 hnW hzW
  have hc10 := hb1.cell 0 (u := .bool s) rfl
  have hc11 := hb1.cell 1 (u := .slice A n c) rfl
  have hc20 := hb2.cell 0 (u := .bool s') rfl
  have hc21 := hb2.cell 1 (u := .slice A' n' c') rfl
  have HW := Lib.hid hnW
  clear hb1 hb2 hnW hzW
  go_region_held3 (fun w' => w'.cell? ⟨w.heap.size, 0, none⟩ = some (.bool s) ∧ w'.cell? ⟨w.heap.size, 1, none⟩ = some (.slice A n c) ∧ w'.cell? ⟨w.heap.size + 1, 0, none⟩ = some (.bool s') ∧ w'.cell? ⟨w.heap.size + 1, 1, none⟩ = some (.slice A' n' c')) (first | exact ⟨by assumption, by assumption, by assumption, by assumption⟩)
    (first
      | (go_at_call 18; refine (HC.out.1 _ ?_).mono ?_; exact HW.out.drew; rintro e w5 ⟨rfl, hn5⟩; have HN5 := Lib.hid (((Chg.refl (fun _ => False) W).drew).new hn5); have hd10 := HN5.out.cell hc10 (fun h => h); have hd11 := HN5.out.cell hc11 (fun h => h); have hd20 := HN5.out.cell hc20 (fun h => h); have hd21 := HN5.out.cell hc21 (fun h => h); clear hn5)
      | (go_at_call 11; refine (HC.out.2 _ ?_).mono ?_; exact HW.out.new HN5.out; rintro e w6 ⟨rfl, hn6⟩; have HN6 := Lib.hid hn6; have he10 := HN6.out.cell hd10 (fun h => h); have he11 := HN6.out.cell hd11 (fun h => h); have he20 := HN6.out.cell hd20 (fun h => h); have he21 := HN6.out.cell hd21 (fun h => h); clear hn6))
  all_goals
    clear hc10 hc11 hc20 hc21 hd10 hd11 hd20 hd21
    go_wp2
    go_ret
    exact ⟨rfl, (HW.out.new HN5.out).new HN6.out⟩
end Go.Proofs.YtgofjkppeobjfaaDoor

namespace Go.Proofs.YtgofjkppeobjfaaDoor
set_option linter.unusedVariables false
open Go.RowKit Go.Mem Go.Dig
open Go.Lib (decDigits)

theorem from_h (n : Int) (w : World) (h1 : -9223372036854775808 ≤ n) (h2 : n ≤ 9223372036854775807) :
    Calls Tryd.prog 20 #[.int .i64 n] w fun e w' => ∃ s A m c, e = .returned (.agg #[.bool s, .slice A m c]) ∧ Hid (WI w' (.agg #[.bool s, .slice A m c]) n ∧ New w w') :=
  (from_any n w h1 h2).mono fun e w' ⟨v, h1, ⟨s, A, m, c, h2, h3, h4⟩, h5⟩ => ⟨s, A, m, c, by rw [h1, h2], ⟨s, A, m, c, rfl, h3, h4⟩, h5⟩
theorem text_pos (l : List UInt8) (z : Nat) (hd : Txt.Formed l) (hv : Txt.decVal l = z) : Txt.text (z : Int) = l := by
  unfold Txt.text
  rw [if_neg (by omega), Int.natAbs_natCast, ← hv, Txt.dec_of_val hd]
theorem text_neg (l : List UInt8) (z : Nat) (hd : Txt.Formed l) (hv : Txt.decVal l = z) (h0 : 0 < z) : Txt.text (-(z : Int)) = 45 :: l := by
  unfold Txt.text
  rw [if_pos (by omega), Int.natAbs_neg, Int.natAbs_natCast, ← hv, Txt.dec_of_val hd]
theorem eq_lit {z : Int} {b : ByteArray} {l : List UInt8} (hb : St (Txt.text z) = b) (h : Txt.text z = l) : (b.toList == l) = true := by
  rw [Lib.toList_data, ← hb, St_dat, h]
  simp
theorem formed_of (l : List UInt8) (c : UInt8) (t : List UInt8) (h : l = c :: t) (hd : l.all (fun c => decide (48 ≤ c.toNat ∧ c.toNat ≤ 57)) = true) (hc : c ≠ 48) : Txt.Formed l := by
  refine ⟨fun x hx => ?_, .inr ⟨c, t, h, hc⟩⟩
  have := List.all_eq_true.1 hd x hx
  unfold Txt.isDig
  simpa using this
theorem small_pow {z : Int} (m : Nat) (hm : 65 ≤ m) (h1 : -18446744073709551617 < z) (h2 : z < 18446744073709551617) : z.natAbs < 2 ^ m :=
  Nat.lt_of_lt_of_le (show z.natAbs < 2 ^ 65 by omega) (Nat.pow_le_pow_right (by omega) hm)
theorem small_900 {z : Int} (h1 : -18446744073709551617 < z) (h2 : z < 18446744073709551617) : z.natAbs < 2 ^ 900000 := small_pow 900000 (by decide) h1 h2
theorem small_1000 {z : Int} (h1 : -18446744073709551617 < z) (h2 : z < 18446744073709551617) : z.natAbs < 2 ^ 1000000 := small_pow 1000000 (by decide) h1 h2
theorem small_top {z : Int} (h1 : -18446744073709551617 < z) (h2 : z < 18446744073709551617) : z.natAbs < topN := by
  have h : ∀ k, 3 ≤ k → 2 ^ 65 ≤ powN k := fun k hk => by
    unfold powN
    refine Nat.le_trans ?_ (Nat.pow_le_pow_right (by omega) hk)
    decide
  exact Nat.lt_of_lt_of_le (show z.natAbs < 2 ^ 65 by omega) (h 512 (by decide))
/-- The text of what Parse refuses. -/
theorem bad_minus_zero : ∀ z, ¬ Txt.Reads [45, 48] z := by
  intro z h
  exact h.2.1 ⟨rfl, rfl⟩
theorem bad_zero_one : ∀ z, ¬ Txt.Reads [48, 49] z := by
  intro z h
  rcases h.1.2 with h1 | ⟨c, t, h1, h2⟩
  · simp [Txt.body] at h1
  · simp [Txt.body] at h1
    exact h2 h1.1.symm

/-- A struct of wide that lies in a block. -/
def WB (w : World) (g : Nat) (z : Int) : Prop := ∃ s A n c, Blk w g 33 #[.bool s, .slice A n c] ∧ WI w (.agg #[.bool s, .slice A n c]) z
theorem WB.new {w w' : World} {g : Nat} {z : Int} (h : WB w g z) (hn : New w w') : WB w' g z := by
  obtain ⟨s, A, n, c, h1, h2⟩ := h
  exact ⟨s, A, n, c, h1.chg hn (fun h => h), h2.new hn⟩

set_option maxRecDepth 100000 in
set_option maxHeartbeats 4000000 in
theorem lives3_any (w : World) (hpt : PowTab w) :
    Calls Tryd.prog 19 #[] w fun e w' => e = .returned (.bool true) ∧ Hid (New w w') := by
  have HT := Lib.hid hpt
  clear hpt
  go_enter Tryd.func19, Tryd.ntmps19
  go_wp2_with fail
  refine (from_h (-7) w (by omega) (by omega)).mono ?_
  rintro e w1 ⟨s1, A1, n1, c1, rfl, H1⟩
  go_wp2_with fail
  refine (from_h 2 w1 (by omega) (by omega)).mono ?_
  rintro e w2 ⟨s2, A2, n2, c2, rfl, H2⟩
  go_wp2_with fail
  refine (wdiv_any _ _ (-7) 2 w2 (H1.out.1.new H2.out.2) H2.out.1 (small_900 (by omega) (by omega)) (small_900 (by omega) (by omega)) (by omega)).mono ?_
  rintro e w3 ⟨s3, A3, n3, c3, t3, B3, m3, d3, rfl, H3⟩
  go_wp2_with fail
  refine Calls.new2 ?_
  intro W3 hbq hbr hn3 hz3
  obtain ⟨gq, hgq⟩ : ∃ x, w3.heap.size = x := ⟨_, rfl⟩
  obtain ⟨gr, hgr⟩ : ∃ x, w3.heap.size + 1 = x := ⟨_, rfl⟩
  rw [hgq] at hbq
  rw [hgr] at hbr
  simp only [hgr]
  simp only [hgq]
  have hQ : WB W3 gq (-4) := ⟨_, _, _, _, hbq, H3.out.1.new hn3⟩
  have hR : WB W3 gr 1 := ⟨_, _, _, _, hbr, H3.out.2.1.new hn3⟩
  have HA := Lib.hid (And.intro hQ (And.intro hR (((H1.out.2.new H2.out.2).new H3.out.2.2).new hn3)))
  clear hQ hR hbq hbr hn3 hz3 hgq hgr H1 H2 H3
  refine (from_h 7 W3 (by omega) (by omega)).mono ?_
  rintro e w4 ⟨s4, A4, n4, c4, rfl, H4⟩
  go_wp2_with fail
  refine (from_h (-2) w4 (by omega) (by omega)).mono ?_
  rintro e w5 ⟨s5, A5, n5, c5, rfl, H5⟩
  go_wp2_with fail
  refine (wdiv_any _ _ 7 (-2) w5 (H4.out.1.new H5.out.2) H5.out.1 (small_900 (by omega) (by omega)) (small_900 (by omega) (by omega)) (by omega)).mono ?_
  rintro e w6 ⟨s6, A6, n6, c6, t6, B6, m6, d6, rfl, H6⟩
  go_wp2_with fail
  refine Calls.new2 ?_
  intro W6 hbs hbt hn6 hz6
  obtain ⟨gs, hgs⟩ : ∃ x, w6.heap.size = x := ⟨_, rfl⟩
  obtain ⟨gt, hgt⟩ : ∃ x, w6.heap.size + 1 = x := ⟨_, rfl⟩
  rw [hgs] at hbs
  rw [hgt] at hbt
  simp only [hgt]
  simp only [hgs]
  have hS : WB W6 gs (-3) := ⟨_, _, _, _, hbs, H6.out.1.new hn6⟩
  have hT : WB W6 gt 1 := ⟨_, _, _, _, hbt, H6.out.2.1.new hn6⟩
  have hN36 : New W3 W6 := ((H4.out.2.new H5.out.2).new H6.out.2.2).new hn6
  have HB := Lib.hid (And.intro (HA.out.1.new hN36) (And.intro (HA.out.2.1.new hN36) (And.intro hS (And.intro hT (HA.out.2.2.new hN36)))))
  clear hS hT hbs hbt hn6 hz6 hgs hgt H4 H5 H6 HA hN36
  refine (from_h 4294967296 W6 (by omega) (by omega)).mono ?_
  rintro e w7 ⟨s7, A7, n7, c7, rfl, H7⟩
  go_wp2_with fail
  refine (from_h 4294967296 w7 (by omega) (by omega)).mono ?_
  rintro e w8 ⟨s8, A8, n8, c8, rfl, H8⟩
  go_wp2_with fail
  have hmul := wmul_any _ _ 4294967296 4294967296 w8 (H7.out.1.new H8.out.2) H8.out.1 (small_1000 (by omega) (by omega)) (small_1000 (by omega) (by omega))
  rw [show (4294967296 : Int) * 4294967296 = 18446744073709551616 by rfl, (rg_in (small_top (z := 18446744073709551616) (by omega) (by omega))).1, (rg_in (small_top (z := 18446744073709551616) (by omega) (by omega))).2] at hmul
  refine hmul.mono ?_
  rintro e w9 ⟨s9, A9, n9, c9, rfl, H9⟩
  clear hmul
  go_wp2_with fail
  refine Calls.new1 ?_
  intro W9 hbx hn9 hz9
  obtain ⟨gx, hgx⟩ : ∃ x, w9.heap.size = x := ⟨_, rfl⟩
  rw [hgx] at hbx
  simp only [hgx]
  have hX : WB W9 gx 18446744073709551616 := ⟨_, _, _, _, hbx, H9.out.1.new hn9⟩
  have hN69 : New W6 W9 := ((H7.out.2.new H8.out.2).new H9.out.2).new hn9
  have HC := Lib.hid (And.intro (HB.out.1.new hN69) (And.intro (HB.out.2.1.new hN69) (And.intro (HB.out.2.2.1.new hN69) (And.intro (HB.out.2.2.2.1.new hN69) (And.intro hX (HB.out.2.2.2.2.new hN69))))))
  have hsm := wsmall_any _ 18446744073709551616 W9 (H9.out.1.new hn9)
  rw [show intIf 18446744073709551616 = 0 by decide, show isInt 18446744073709551616 = false by decide] at hsm
  clear hX hbx hn9 hz9 hgx H7 H8 H9 HB hN69
  refine hsm.mono ?_
  rintro e w10 ⟨rfl, hn10⟩
  have HN10 := Lib.hid hn10
  clear hsm hn10
  go_wp2_with fail
  refine (wparse_bad ⟨#[45, 48]⟩ [45, 48] rfl (by decide) bad_minus_zero w10).mono ?_
  rintro e w11 ⟨rfl, hn11⟩
  have HN11 := Lib.hid (HN10.out.new hn11)
  clear hn11 HN10
  go_wp2_with fail
  refine Calls.new1 ?_
  intro W11 hb11 hn11 hz11
  refine (wparse_bad ⟨#[48, 49]⟩ [48, 49] rfl (by decide) bad_zero_one W11).mono ?_
  rintro e w12 ⟨rfl, hn12⟩
  have hn912 : New W9 (w12.alloc (.cells #[.bool false, .slice none 0 0] 33)) := ((HN11.out.new hn11).new hn12).alloc _
  have HD := Lib.hid (And.intro (HC.out.1.new hn912) (And.intro (HC.out.2.1.new hn912) (And.intro (HC.out.2.2.1.new hn912) (And.intro (HC.out.2.2.2.1.new hn912) (And.intro (HC.out.2.2.2.2.1.new hn912) (HC.out.2.2.2.2.2.new hn912))))))
  clear hn11 hz11 hb11 hn12 hn912 HN11 HC
  obtain ⟨x1, X1, p1, r1, hb1, hw1⟩ := HD.out.1
  have hk10 := hb1.cell 0 (u := .bool x1) rfl
  have hk11 := hb1.cell 1 (u := .slice X1 p1 r1) rfl
  have hs1 := wstring_any _ (-4) _ hw1 (HT.out.new HD.out.2.2.2.2.2) (small_900 (by omega) (by omega))
  obtain ⟨b1, hbb1⟩ : ∃ b, St (Txt.text (-4)) = b := ⟨_, rfl⟩
  rw [hbb1] at hs1
  have he1 := eq_lit hbb1 (text_neg [52] 4 (formed_of _ 52 [] rfl (by decide) (by decide)) (by decide) (by decide))
  have he1' : b1.toList = [45, 52] := by simpa using he1
  have HS1 := Lib.hid hs1
  have HE1 := Lib.hid he1'
  clear hb1 hw1 hs1 hbb1 he1'
  go_wp2_with fail
  refine HS1.out.mono ?_
  rintro e v1 ⟨rfl, hn1⟩
  have HD2 := Lib.hid (And.intro (HD.out.2.1.new hn1) (And.intro (HD.out.2.2.1.new hn1) (And.intro (HD.out.2.2.2.1.new hn1) (And.intro (HD.out.2.2.2.2.1.new hn1) (HD.out.2.2.2.2.2.new hn1)))))
  clear hn1 hk10 hk11 HS1
  obtain ⟨x2, X2, p2, r2, hb2, hw2⟩ := HD2.out.1
  have hk20 := hb2.cell 0 (u := .bool x2) rfl
  have hk21 := hb2.cell 1 (u := .slice X2 p2 r2) rfl
  have hs2 := wstring_any _ (1) _ hw2 (HT.out.new HD2.out.2.2.2.2) (small_900 (by omega) (by omega))
  obtain ⟨b2, hbb2⟩ : ∃ b, St (Txt.text (1)) = b := ⟨_, rfl⟩
  rw [hbb2] at hs2
  have he2 := eq_lit hbb2 (text_pos [49] 1 (formed_of _ 49 [] rfl (by decide) (by decide)) (by decide))
  have he2' : b2.toList = [49] := by simpa using he2
  have HS2 := Lib.hid hs2
  have HE2 := Lib.hid he2'
  clear hb2 hw2 hs2 hbb2 he2'
  go_wp2_with fail
  refine HS2.out.mono ?_
  rintro e v2 ⟨rfl, hn2⟩
  have HD3 := Lib.hid (And.intro (HD2.out.2.1.new hn2) (And.intro (HD2.out.2.2.1.new hn2) (And.intro (HD2.out.2.2.2.1.new hn2) (HD2.out.2.2.2.2.new hn2))))
  clear hn2 hk20 hk21 HS2
  obtain ⟨x3, X3, p3, r3, hb3, hw3⟩ := HD3.out.1
  have hk30 := hb3.cell 0 (u := .bool x3) rfl
  have hk31 := hb3.cell 1 (u := .slice X3 p3 r3) rfl
  have hs3 := wstring_any _ (-3) _ hw3 (HT.out.new HD3.out.2.2.2) (small_900 (by omega) (by omega))
  obtain ⟨b3, hbb3⟩ : ∃ b, St (Txt.text (-3)) = b := ⟨_, rfl⟩
  rw [hbb3] at hs3
  have he3 := eq_lit hbb3 (text_neg [51] 3 (formed_of _ 51 [] rfl (by decide) (by decide)) (by decide) (by decide))
  have he3' : b3.toList = [45, 51] := by simpa using he3
  have HS3 := Lib.hid hs3
  have HE3 := Lib.hid he3'
  clear hb3 hw3 hs3 hbb3 he3'
  go_wp2_with fail
  refine HS3.out.mono ?_
  rintro e v3 ⟨rfl, hn3⟩
  have HD4 := Lib.hid (And.intro (HD3.out.2.1.new hn3) (And.intro (HD3.out.2.2.1.new hn3) (HD3.out.2.2.2.new hn3)))
  clear hn3 hk30 hk31 HS3
  obtain ⟨x4, X4, p4, r4, hb4, hw4⟩ := HD4.out.1
  have hk40 := hb4.cell 0 (u := .bool x4) rfl
  have hk41 := hb4.cell 1 (u := .slice X4 p4 r4) rfl
  have hs4 := wstring_any _ (1) _ hw4 (HT.out.new HD4.out.2.2) (small_900 (by omega) (by omega))
  obtain ⟨b4, hbb4⟩ : ∃ b, St (Txt.text (1)) = b := ⟨_, rfl⟩
  rw [hbb4] at hs4
  have he4 := eq_lit hbb4 (text_pos [49] 1 (formed_of _ 49 [] rfl (by decide) (by decide)) (by decide))
  have he4' : b4.toList = [49] := by simpa using he4
  have HS4 := Lib.hid hs4
  have HE4 := Lib.hid he4'
  clear hb4 hw4 hs4 hbb4 he4'
  go_wp2_with fail
  refine HS4.out.mono ?_
  rintro e v4 ⟨rfl, hn4⟩
  have HD5 := Lib.hid (And.intro (HD4.out.2.1.new hn4) (HD4.out.2.2.new hn4))
  clear hn4 hk40 hk41 HS4
  obtain ⟨x5, X5, p5, r5, hb5, hw5⟩ := HD5.out.1
  have hk50 := hb5.cell 0 (u := .bool x5) rfl
  have hk51 := hb5.cell 1 (u := .slice X5 p5 r5) rfl
  have hs5 := wstring_any _ (18446744073709551616) _ hw5 (HT.out.new HD5.out.2) (small_900 (by omega) (by omega))
  obtain ⟨b5, hbb5⟩ : ∃ b, St (Txt.text (18446744073709551616)) = b := ⟨_, rfl⟩
  rw [hbb5] at hs5
  have he5 := eq_lit hbb5 (text_pos [49, 56, 52, 52, 54, 55, 52, 52, 48, 55, 51, 55, 48, 57, 53, 53, 49, 54, 49, 54] 18446744073709551616 (formed_of _ 49 [56, 52, 52, 54, 55, 52, 52, 48, 55, 51, 55, 48, 57, 53, 53, 49, 54, 49, 54] rfl (by decide) (by decide)) (by decide))
  have he5' : b5.toList = [49, 56, 52, 52, 54, 55, 52, 52, 48, 55, 51, 55, 48, 57, 53, 53, 49, 54, 49, 54] := by simpa using he5
  have HS5 := Lib.hid hs5
  have HE5 := Lib.hid he5'
  clear hb5 hw5 hs5 hbb5 he5'
  go_wp2_with fail
  refine HS5.out.mono ?_
  rintro e v5 ⟨rfl, hn5⟩
  have HF := Lib.hid (HD5.out.2.new hn5)
  clear hn5 hk50 hk51 HS5
  go_wp2
  go_ret
  exact ⟨rfl, HF.out⟩
end Go.Proofs.YtgofjkppeobjfaaDoor

namespace Go.Proofs.YtgofjkppeobjfaaDoor
set_option linter.unusedVariables false
open Go.RowKit Go.Mem Go.Dig

def pw2 (k : Nat) : Nat := 2 ^ k
/-- Far inside the range. -/
def Sm (z : Int) : Prop := z.natAbs < pw2 3000
theorem pw2_le {a b : Nat} (h : a ≤ b) : pw2 a ≤ pw2 b := Nat.pow_le_pow_right (by omega) h
theorem pw2_add (a b : Nat) : pw2 (a + b) = pw2 a * pw2 b := Nat.pow_add 2 a b
theorem powN_pw2 (k : Nat) : powN k = pw2 (32 * k) := powN_two k _ rfl
theorem topN_pw2 : topN = pw2 16384 := powN_pw2 512
theorem Sm.of {z : Int} {k : Nat} (h : z.natAbs < pw2 k) (hk : k ≤ 3000) : Sm z := Nat.lt_of_lt_of_le h (pw2_le hk)
theorem Sm.top {z : Int} (h : Sm z) : z.natAbs < topN := by rw [topN_pw2]; exact Nat.lt_of_lt_of_le h (pw2_le (by decide))
theorem Sm.dmax {z : Int} (h : Sm z) : z.natAbs < dmax := Nat.lt_of_lt_of_le h.top (Nat.le_trans (Nat.le_add_right _ _) top_dmax)
theorem Sm.pk {z : Int} (h : Sm z) (k : Nat) (hk : 3000 ≤ k) : z.natAbs < 2 ^ k := Nat.lt_of_lt_of_le h (pw2_le hk)
theorem Sm.p9 {z : Int} (h : Sm z) : z.natAbs < 2 ^ 900000 := h.pk 900000 (by decide)
theorem Sm.p10 {z : Int} (h : Sm z) : z.natAbs < 2 ^ 1000000 := h.pk 1000000 (by decide)
theorem natAbs_add_lt {x y : Int} {a : Nat} (hx : x.natAbs < pw2 a) (hy : y.natAbs < pw2 a) : (x + y).natAbs < pw2 (a + 1) := by
  have : pw2 (a + 1) = pw2 a * 2 := pw2_add a 1
  omega
theorem natAbs_sub_lt {x y : Int} {a : Nat} (hx : x.natAbs < pw2 a) (hy : y.natAbs < pw2 a) : (x - y).natAbs < pw2 (a + 1) := by
  have : pw2 (a + 1) = pw2 a * 2 := pw2_add a 1
  omega
theorem natAbs_mul_lt {x y : Int} {a b : Nat} (hx : x.natAbs < pw2 a) (hy : y.natAbs < pw2 b) : (x * y).natAbs < pw2 (a + b) := by
  rw [Int.natAbs_mul, pw2_add]
  exact Nat.mul_lt_mul'' hx hy
theorem num_lt (l : List Int) (at_ : Nat) : (numI l at_).natAbs < pw2 230 := numI_bnd l at_
theorem num_sm (l : List Int) (at_ : Nat) : Sm (numI l at_) := Sm.of (num_lt l at_) (by decide)
theorem rgE_sm {z : Int} (h : Sm z) : rg z = z ∧ rgE z = 0 := rg_in h.top

/-- A struct of the reference, of package wide, in a block. -/
def RX (w : World) (g : Nat) (s : Bool) (A : Option Addr) (n c : Nat) (z : Int) : Prop := Blk w g 25 #[.bool s, .slice A n c] ∧ RN w (.agg #[.bool s, .slice A n c]) z
def WX (w : World) (g : Nat) (s : Bool) (A : Option Addr) (n c : Nat) (z : Int) : Prop := Blk w g 33 #[.bool s, .slice A n c] ∧ WI w (.agg #[.bool s, .slice A n c]) z
theorem RX.new {w w' : World} {g : Nat} {s : Bool} {A : Option Addr} {n c : Nat} {z : Int} (h : RX w g s A n c z) (hn : New w w') : RX w' g s A n c z := ⟨h.1.chg hn (fun h => h), h.2.new hn⟩
theorem WX.new {w w' : World} {g : Nat} {s : Bool} {A : Option Addr} {n c : Nat} {z : Int} (h : WX w g s A n c z) (hn : New w w') : WX w' g s A n c z := ⟨h.1.chg hn (fun h => h), h.2.new hn⟩
theorem RX.c0 {w : World} {g : Nat} {s : Bool} {A : Option Addr} {n c : Nat} {z : Int} (h : RX w g s A n c z) : w.cell? ⟨g, 0, none⟩ = some (.bool s) := h.1.cell 0 rfl
theorem RX.c1 {w : World} {g : Nat} {s : Bool} {A : Option Addr} {n c : Nat} {z : Int} (h : RX w g s A n c z) : w.cell? ⟨g, 1, none⟩ = some (.slice A n c) := h.1.cell 1 rfl
theorem WX.c0 {w : World} {g : Nat} {s : Bool} {A : Option Addr} {n c : Nat} {z : Int} (h : WX w g s A n c z) : w.cell? ⟨g, 0, none⟩ = some (.bool s) := h.1.cell 0 rfl
theorem WX.c1 {w : World} {g : Nat} {s : Bool} {A : Option Addr} {n c : Nat} {z : Int} (h : WX w g s A n c z) : w.cell? ⟨g, 1, none⟩ = some (.slice A n c) := h.1.cell 1 rfl

/-- A call that returns a struct of the reference; of package wide; the latter with a number or a bool behind it. -/
def RetR (w : World) (z : Int) (e : Ending) (w' : World) : Prop := ∃ s A n c, e = .returned (.agg #[.bool s, .slice A n c]) ∧ Hid (RN w' (.agg #[.bool s, .slice A n c]) z ∧ New w w')
def RetW (w : World) (z : Int) (e : Ending) (w' : World) : Prop := ∃ s A n c, e = .returned (.agg #[.bool s, .slice A n c]) ∧ Hid (WI w' (.agg #[.bool s, .slice A n c]) z ∧ New w w')
def RetWV (w : World) (z : Int) (u : Value) (e : Ending) (w' : World) : Prop := ∃ s A n c, e = .returned (.tuple #[.agg #[.bool s, .slice A n c], u]) ∧ Hid (WI w' (.agg #[.bool s, .slice A n c]) z ∧ New w w')
def RetWW (w : World) (z z' : Int) (u : Value) (e : Ending) (w' : World) : Prop := ∃ s A n c s' A' n' c', e = .returned (.tuple #[.agg #[.bool s, .slice A n c], .agg #[.bool s', .slice A' n' c'], u]) ∧ Hid (WI w' (.agg #[.bool s, .slice A n c]) z ∧ WI w' (.agg #[.bool s', .slice A' n' c']) z' ∧ New w w')
def RetV (w : World) (u : Value) (e : Ending) (w' : World) : Prop := e = .returned u ∧ Hid (New w w')

variable {w : World} {v v' : Value} {x y z : Int}
theorem wider_s (w : World) (v : Value) (z : Int) (hv : RN w v z) (hz : Sm z) : Calls Tryd.prog 24 #[v] w (RetWV w z (.bool true)) := by
  have h := wider_any v z w hv hz.dmax true (by rw [(rgE_sm hz).2]; rfl)
  rwa [(rgE_sm hz).1] at h
theorem equal_s (w : World) (v v' : Value) (x : Int) (hx : WI w v x) (ha : RN w v' x) (hpt : PowTab w) (hz : Sm x) : Calls Tryd.prog 17 #[v, v'] w (RetV w (.bool true)) :=
  equal_any v v' x x w hx ha hpt hz.dmax hz.dmax true (by simp)
theorem lives_s (w : World) (hpt : PowTab w) : Calls Tryd.prog 19 #[] w (RetV w (.bool true)) := lives3_any w hpt
theorem wadd_s (w : World) (v v' : Value) (x y : Int) (hx : WI w v x) (hy : WI w v' y) (bx : Sm x) (bY : Sm y) (bz : Sm (x + y)) : Calls Tryd.prog 37 #[v, v'] w (RetWV w (x + y) (.int .i64 0)) := by
  have h := wadd_any v v' x y w hx hy bx.p10 bY.p10
  rwa [(rgE_sm bz).1, (rgE_sm bz).2] at h
theorem wsub_s (w : World) (v v' : Value) (x y : Int) (hx : WI w v x) (hy : WI w v' y) (bx : Sm x) (bY : Sm y) (bz : Sm (x - y)) : Calls Tryd.prog 38 #[v, v'] w (RetWV w (x - y) (.int .i64 0)) := by
  have h := wsub_any v v' x y w hx hy bx.p10 bY.p10
  rwa [(rgE_sm bz).1, (rgE_sm bz).2] at h
theorem wmul_s (w : World) (v v' : Value) (x y : Int) (hx : WI w v x) (hy : WI w v' y) (bx : Sm x) (bY : Sm y) (bz : Sm (x * y)) : Calls Tryd.prog 26 #[v, v'] w (RetWV w (x * y) (.int .i64 0)) := by
  have h := wmul_any v v' x y w hx hy bx.p10 bY.p10
  rwa [(rgE_sm bz).1, (rgE_sm bz).2] at h
theorem wdiv_s (w : World) (v v' : Value) (x y : Int) (hx : WI w v x) (hy : WI w v' y) (bx : Sm x) (bY : Sm y) (h0 : y ≠ 0) : Calls Tryd.prog 29 #[v, v'] w (RetWW w (x / y) (x % y) (.int .i64 0)) :=
  wdiv_any v v' x y w hx hy bx.p9 bY.p9 h0
theorem number_s (A : Option Addr) (n c : Nat) (l : List Int) (hl : ∀ z ∈ l, -9223372036854775808 ≤ z ∧ z ≤ 9223372036854775807) (w : World) (hr : Rd w A n (is l)) (hn : n ≤ 9223372036854775807) :
    Calls Tryd.prog 12 #[.slice A n c, .int .i64 0] w (RetR w (numI l 0)) ∧ Calls Tryd.prog 12 #[.slice A n c, .int .i64 6] w (RetR w (numI l 6)) ∧ Calls Tryd.prog 12 #[.slice A n c, .int .i64 12] w (RetR w (numI l 12)) :=
  ⟨number_any A n c l hl 0 (by omega) w hr hn, number_any A n c l hl 6 (by omega) w hr hn, number_any A n c l hl 12 (by omega) w hr hn⟩
theorem radd_s (w : World) (v v' : Value) (x y : Int) (hx : RN w v x) (hy : RN w v' y) (bx : Sm x) (bY : Sm y) : Calls Tryd.prog 28 #[v, v'] w (RetR w (x + y)) := radd_h v v' x y w hx hy bx.p10 bY.p10
theorem rmul_s (w : World) (v v' : Value) (x y : Int) (hx : RN w v x) (hy : RN w v' y) (bx : Sm x) (bY : Sm y) : Calls Tryd.prog 27 #[v, v'] w (RetR w (x * y)) := rmul_h v v' x y w hx hy bx.p10 bY.p10
theorem rsub_s (w : World) (v v' : Value) (x y : Int) (hx : RN w v x) (hy : RN w v' y) (bx : Sm x) (bY : Sm y) : Calls Tryd.prog 39 #[v, v'] w (RetR w (x - y)) :=
  (rsub_any v v' x y w hx hy bx.p10 bY.p10).mono fun e w' ⟨v, h1, ⟨s, A, n, c, h2, h3, h4⟩, h5⟩ => ⟨s, A, n, c, by rw [h1, h2], ⟨s, A, n, c, rfl, h3, h4⟩, h5⟩
end Go.Proofs.YtgofjkppeobjfaaDoor
