/- Contract of refuterref03.Parse. -/
import Derived.Test.YtgofjkppeobjfaaGreatDoorB5
import Derived.Test.YtgofjkppeobjfaaGreatDoorTextLZ
import Derived.Test.YtgofjkppeobjfaaGreatDoorPureParseZ
namespace Go.Proofs.YtgofjkppeobjfaaGreatDoor
set_option linter.unusedVariables false
open Go.RowKit Go.Mem Go.Dig

set_option maxHeartbeats 1000000 in
set_option maxRecDepth 100000 in
theorem rparse_long (b : ByteArray) (hn : 5000 < b.size) (w : World) :
    Calls Tryz.prog 22 #[.string b] w fun e w' => e = .returned (.tuple #[.agg #[.bool false, .slice none 0 0], .int .i64 4]) ∧ New w w' := by
  have h1 : (5000 : Int) < (b.size : Int) := by omega
  go_enter Tryz.func22, Tryz.ntmps22
  go_wp2
  exact bodyPost_ret (res_ct rfl _ rfl (aggN.load (Blk.new _ _ _)) rfl) rfl ⟨rfl, (Chg.refl _ w).alloc _⟩

/-- A call that returns a struct of the reference, and a value behind it. -/
def RetRV (w : World) (z : Int) (u : Value) (e : Ending) (w' : World) : Prop := ∃ s A n c, e = .returned (.tuple #[.agg #[.bool s, .slice A n c], u]) ∧ Hid (RN w' (.agg #[.bool s, .slice A n c]) z ∧ New w w')

/-- What Parse returns for the text l. -/
def ParsR (l : List UInt8) (Z E : Int) : Prop := (∃ z, Txt.Reads l z ∧ rg z = Z ∧ rgE z = E) ∨ ((∀ z, ¬ Txt.Reads l z) ∧ Z = 0 ∧ E = 2)
theorem ParsR.bad {l : List UInt8} {Z E : Int} (h : ParsR l Z E) (hb : ∀ z, ¬ Txt.Reads l z) : Z = 0 ∧ E = 2 := by
  rcases h with ⟨z, h1, -⟩ | ⟨-, h⟩
  · exact absurd h1 (hb z)
  · exact h
theorem ParsR.ok {l : List UInt8} {Z E z : Int} (h : ParsR l Z E) (hz : Txt.Reads l z) : Z = rg z ∧ E = rgE z := by
  rcases h with ⟨z', h1, h2, h3⟩ | ⟨h, -⟩
  · have := h1.uniq hz
    subst this
    exact ⟨h2.symm, h3.symm⟩
  · exact absurd hz (h z)
/-- The checks ahead of the digits: they let l pass. -/
def Pass (g : Bool) (t : List UInt8) : Prop := t ≠ [] ∧ (t.head? = some 48 → g = false ∧ t.length = 1)
theorem pass_reads {l t : List UInt8} {g : Bool} (ht : Txt.body l = t) (hg : decide (l.head? = some 45) = g) (hp : Pass g t) (ha : Txt.AllDig t) : Txt.Reads l (sg g (Txt.decVal t)) := by
  subst ht hg
  refine ⟨⟨ha, ?_⟩, ?_, ?_⟩
  · generalize ht : Txt.body l = t at *
    cases t with
    | nil => exact absurd rfl hp.1
    | cons c u =>
      by_cases h : c = 48
      · have := (hp.2 (by simp [h])).2
        left
        rw [h, List.eq_nil_of_length_eq_zero (show u.length = 0 by simpa using this)]
      · exact .inr ⟨c, u, rfl, h⟩
  · rintro ⟨h1, h2⟩
    have := (hp.2 (by rw [h2]; rfl)).1
    simp [h1] at this
  · unfold sg
    by_cases h : l.head? = some 45 <;> simp [h]
theorem not_pass {l t : List UInt8} {g : Bool} (ht : Txt.body l = t) (hg : decide (l.head? = some 45) = g) (hp : ¬ Pass g t) : ∀ z, ¬ Txt.Reads l z := by
  rintro z ⟨⟨h1, h2⟩, h3, -⟩
  subst ht hg
  refine hp ⟨fun e => ?_, fun e => ?_⟩
  · rcases h2 with h | ⟨c, t, h, -⟩ <;> rw [h] at e <;> simp at e
  · rcases h2 with h | ⟨c, t, h, hc⟩
    · refine ⟨?_, by rw [h]; rfl⟩
      simp
      intro h45
      exact h3 ⟨h45, h⟩
    · rw [h] at e
      simp at e
      exact absurd e hc
theorem not_dig {l t : List UInt8} {c : UInt8} {k : Nat} (ht : Txt.body l = t) (hc : t[k]? = some c) (hd : ¬ Txt.isDig c) : ∀ z, ¬ Txt.Reads l z := by
  rintro z ⟨⟨h1, -⟩, -, -⟩
  rw [ht] at h1
  exact hd (h1 c (List.mem_of_getElem? hc))
theorem body45 {l : List UInt8} (h : l.head? = some 45) : Txt.body l = l.tail := by unfold Txt.body; rw [if_pos h]
theorem body_same {l : List UInt8} (h : ¬ l.head? = some 45) : Txt.body l = l := by unfold Txt.body; rw [if_neg h]
theorem St_tail (l : List UInt8) : (St l).extract 1 (St l).size = St l.tail := by rw [St_drop, List.drop_one]
theorem head_at {b : ByteArray} {l : List UInt8} (h : b = St l) (hk : 0 < b.size) : l.head? = some b[0] := by
  rw [← str_at h hk, List.head?_eq_getElem?]

set_option maxHeartbeats 4000000 in
set_option maxRecDepth 100000 in
theorem rparse_any (b : ByteArray) (l : List UInt8) (hb : b = St l) (hn : b.size ≤ 5000) (Z E : Int) (hr : ParsR l Z E) (w : World) :
    Calls Tryz.prog 22 #[.string b] w (RetRV w Z (.int .i64 E)) := by
  have h1 : decide ((5000 : Int) < (b.size : Int)) = false := by simp; omega
  have h1' : decide (5000 < b.size) = false := by simp; omega
  obtain ⟨t, ht⟩ : ∃ t, Txt.body l = t := ⟨_, rfl⟩
  obtain ⟨g, hg⟩ : ∃ g, decide (l.head? = some 45) = g := ⟨_, rfl⟩
  obtain ⟨c, hc⟩ : ∃ c, St t = c := ⟨_, rfl⟩
  have hcs : c.size ≤ 5000 := by rw [← hc, St_size, ← ht]; have := Txt.Reads.body_len l; rw [hb, St_size] at hn; omega
  have htl : t.length = c.size := by rw [← hc, St_size]
  have hfront : (b.size = 0 ∧ g = false ∧ c = b) ∨ (∃ h : 0 < b.size, b[0] = 45 ∧ g = true ∧ (∀ W, (Instr.slice 9 (.string b) (some (.int .i64 1)) none none).run Tryz.prog W = .ok (.string c) W)) ∨ (∃ h : 0 < b.size, ∃ a, b[0] = a ∧ ((a.toNat : Int) == 45) = false ∧ g = false ∧ c = b) := by
    by_cases h0 : b.size = 0
    · have hl0 : l = [] := by rw [hb, St_size] at h0; exact List.eq_nil_of_length_eq_zero h0
      refine .inl ⟨h0, by rw [← hg, hl0]; rfl, ?_⟩
      rw [← hc, ← ht, body_same (by rw [hl0]; simp), hb]
    · have hp : 0 < b.size := by omega
      have hh := head_at hb hp
      by_cases h45 : b[0] = 45
      · rw [h45] at hh
        refine .inr (.inl ⟨hp, h45, by rw [← hg]; simp [hh], fun W => ?_⟩)
        rw [run_slice_string_l W 9 b Tryz.underlying9 .i64 1 (by omega) (by omega)]
        rw [show (1 : Int).toNat = 1 by rfl, hb, St_tail, ← body45 hh, ht, hc]
      · have hh' : ¬ l.head? = some 45 := by rw [hh]; simpa using h45
        refine .inr (.inr ⟨hp, b[0], rfl, ?_, by rw [← hg]; simp [hh'], ?_⟩)
        · simp
          intro e
          exact h45 (UInt8.toNat_inj.1 (by simpa using (by omega : b[0].toNat = 45)))
        · rw [← hc, ← ht, body_same hh', hb]
  have H0 := Lib.hid (And.intro hc (And.intro ht (And.intro hg (And.intro htl hr))))
  clear hc ht hg htl hr hb
  go_enter Tryz.func22, Tryz.ntmps22
  rcases hfront with ⟨h0, rfl, rfl⟩ | ⟨hp, h45, rfl, hsl⟩ | ⟨hp, a, ha, h45, rfl, rfl⟩
  · have hs0 : ((c.size : Int) == 0) = true := by rw [h0]; rfl
    go_upto_region 7 with fail
    refine Code.new1 ?_
    intro W hb2 hnW hzW
    obtain ⟨g2, hg2⟩ : ∃ x, w.heap.size = x := ⟨_, rfl⟩
    rw [hg2] at hb2
    simp only [hg2]
    have HW := Lib.hid (And.intro hb2 (And.intro hnW hg2))
    have k20 := hb2.cell 0 rfl
    have k21 := hb2.cell 1 rfl
    have f20 := hb2.frozen 0
    have f21 := hb2.frozen 1
    clear hb2 hnW hzW hg2
    obtain ⟨rfl, rfl⟩ := H0.out.2.2.2.2.bad (not_pass H0.out.2.1 H0.out.2.2.1 (fun hpp => hpp.1 (List.eq_nil_of_length_eq_zero (by have := H0.out.2.2.2.1; omega))))
    go_wp2
    refine bodyPost_ret (res_ct rfl _ rfl (aggN.load (HW.out.1.set2 _ _)) rfl) rfl ⟨false, none, 0, 0, rfl, RN.zero _, ?_⟩
    exact Chg.owned HW.out.2.1 (Chg.at2 _ _ _ _) (fun k e => by have := HW.out.2.2; omega)
  · go_upto_region 7 with fail
    clear hsl h45
    refine Code.new1 ?_
    intro W hb2 hnW hzW
    obtain ⟨g2, hg2⟩ : ∃ x, w.heap.size = x := ⟨_, rfl⟩
    rw [hg2] at hb2
    simp only [hg2]
    have HW := Lib.hid (And.intro hb2 (And.intro hnW hg2))
    have k20 := hb2.cell 0 rfl
    have k21 := hb2.cell 1 rfl
    have f20 := hb2.frozen 0
    have f21 := hb2.frozen 1
    clear hb2 hnW hzW hg2
    by_cases h0 : c.size = 0
    · have hs0 : ((c.size : Int) == 0) = true := by rw [h0]; rfl
      obtain ⟨rfl, rfl⟩ := H0.out.2.2.2.2.bad (not_pass H0.out.2.1 H0.out.2.2.1 (fun hpp => hpp.1 (List.eq_nil_of_length_eq_zero (by have := H0.out.2.2.2.1; omega))))
      go_wp2
      refine bodyPost_ret (res_ct rfl _ rfl (aggN.load (HW.out.1.set2 _ _)) rfl) rfl ⟨false, none, 0, 0, rfl, RN.zero _, ?_⟩
      exact Chg.owned HW.out.2.1 (Chg.at2 _ _ _ _) (fun k e => by have := HW.out.2.2; omega)
    · have hs0 : ((c.size : Int) == 0) = false := beq_eq_false_iff_ne.2 (by omega)
      have hs0' : (c.size == 0) = false := beq_eq_false_iff_ne.2 (by omega)
      have hpos : 0 < c.size := by omega
      have hhd := head_at H0.out.1.symm hpos
      obtain ⟨a, ha⟩ : ∃ a, c[0] = a := ⟨_, rfl⟩
      rw [ha] at hhd
      have HH := Lib.hid hhd
      clear hhd h0
      by_cases h48 : a = 48
      · subst h48
        obtain ⟨rfl, rfl⟩ := H0.out.2.2.2.2.bad (not_pass H0.out.2.1 H0.out.2.2.1 (fun hpp => by have := (hpp.2 HH.out).1; simp at this))
        go_wp2
        refine bodyPost_ret (res_ct rfl _ rfl (aggN.load (HW.out.1.set2 _ _)) rfl) rfl ⟨false, none, 0, 0, rfl, RN.zero _, ?_⟩
        exact Chg.owned HW.out.2.1 (Chg.at2 _ _ _ _) (fun k e => by have := HW.out.2.2; omega)
      · have h48i : ((a.toNat : Int) == 48) = false := by
          rw [beq_eq_false_iff_ne]
          intro e
          exact h48 (UInt8.toNat_inj.1 (by simpa using (by omega : a.toNat = 48)))
        have HP : Hid (Pass true t) := ⟨fun e => by have := H0.out.2.2.2.1; rw [e] at this; simp at this; omega, fun e => by rw [HH.out] at e; simp at e; exact absurd e h48⟩
        go_upto_region 9 with fail
        clear hs0 hs0' hpos ha h48 h48i HH
        go_wp2_with fail
        clear h1 h1' hn
        go_loop [6] (fun i => ∃ k : Nat, i = .int .i64 (k : Int) ∧ k ≤ c.size ∧ Hid (Txt.AllDig (t.take k))) (fun i => c.size - (intOf i).toNat)
        case atStart => exact ⟨0, rfl, by omega, by show Txt.AllDig _; rw [List.take_zero]; exact Txt.AllDig.nil⟩
        case round =>
          obtain ⟨k, rfl, hk, HA⟩ := hrel
          by_cases hlt : k < c.size
          · have hc := str_at H0.out.1.symm hlt
            obtain ⟨e, hcc⟩ : ∃ e, c[k] = e := ⟨_, rfl⟩
            rw [hcc] at hc
            by_cases hd : Txt.isDig e
            · have hd' := hd
              unfold Txt.isDig at hd
              have h1 : decide ((e.toNat : Int) < 48) = false := by simp; omega
              have h2 : decide (57 < (e.toNat : Int)) = false := by simp; omega
              have HN : Hid (Txt.AllDig (t.take (k + 1))) := by
                show Txt.AllDig _
                rw [List.take_add_one, hc]
                refine HA.out.append (fun x hx => ?_)
                rw [show (some e).toList = [e] by rfl, List.mem_singleton] at hx
                subst hx
                exact hd'
              clear hc hd hd' HA
              go_wp2
              go_round
              case rel => exact ⟨k + 1, by go_num, by omega, HN⟩
              case measure => simp [intOf]; omega
            · obtain ⟨rfl, rfl⟩ := H0.out.2.2.2.2.bad (not_dig H0.out.2.1 hc hd)
              unfold Txt.isDig at hd
              by_cases h1 : e.toNat < 48
              · have h1' : (e.toNat : Int) < 48 := by omega
                clear hc hd HA
                go_wp2
                refine bodyPost_ret (res_ct rfl _ rfl (aggN.load (HW.out.1.set2 _ _)) rfl) rfl ⟨false, none, 0, 0, rfl, RN.zero _, ?_⟩
                exact Chg.owned HW.out.2.1 (Chg.at2 _ _ _ _) (fun k e => by have := HW.out.2.2; omega)
              · have h1' : decide ((e.toNat : Int) < 48) = false := by simp; omega
                have h2' : 57 < (e.toNat : Int) := by omega
                clear hc hd HA
                go_wp2
                refine bodyPost_ret (res_ct rfl _ rfl (aggN.load (HW.out.1.set2 _ _)) rfl) rfl ⟨false, none, 0, 0, rfl, RN.zero _, ?_⟩
                exact Chg.owned HW.out.2.1 (Chg.at2 _ _ _ _) (fun k e => by have := HW.out.2.2; omega)
          · obtain rfl : c.size = k := by omega
            have hall : Txt.AllDig t := by have := HA.out; rwa [List.take_of_length_le (by have := H0.out.2.2.2.1; omega)] at this
            have hge : decide (((c.size : Nat) : Int) < ((c.size : Nat) : Int)) = false := by simp
            have hrd := pass_reads H0.out.2.1 H0.out.2.2.1 HP.out hall
            obtain ⟨hZ, hE⟩ := H0.out.2.2.2.2.ok hrd
            have HR := Lib.hid (And.intro hall (And.intro H0.out.2.2.2.1 (And.intro hZ (And.intro hE H0.out.1))))
            clear hall hrd hZ hE HA hk hlt HP H0
            go_wp2_with fail
            clear hge
            go_loopw [7, 8, 9, 10] (fun s7 s8 _ _ wr => ∃ (R : Option Addr) (m d : Nat) (z : Int) (o : List Nat), s7 = .slice R m d ∧ s8 = .int .i64 z ∧ -4 < z ∧ z ≤ (c.size : Int) ∧ m ≤ 5000 ∧ Hid (Txt.PrI t z o ∧ wr.ownsRow W.heap.size 3 1 (.slice R m d) m (nv .i64 o) ∧ o.length = m ∧ New W wr)) (fun _ s8 _ _ _ => (intOf s8 + 4).toNat)
            case atStart => exact ⟨none, 0, 0, (c.size : Int), [], rfl, rfl, by omega, by omega, by omega, by have := Txt.PrI.start t; rwa [HR.out.2.1] at this, World.ownsRow_nil _ _ _ _, rfl, Chg.refl _ _⟩
            case round =>
              obtain ⟨R, m, d, z, o, rfl, rfl, hz1, hz2, hm, HO⟩ := hrel
              obtain ⟨wo, rfl⟩ : ∃ wo : World, wo = wr := ⟨_, rfl⟩
              by_cases h0 : 0 < z
              · obtain ⟨zn, rfl⟩ : ∃ zn : Nat, z = zn := ⟨z.toNat, by omega⟩
                obtain ⟨z4, hz4⟩ : ∃ z4 : Int, (zn : Int) - 4 = z4 := ⟨_, rfl⟩
                obtain ⟨p, hp⟩ : ∃ p : Nat, zn - 4 = p := ⟨_, rfl⟩
                have hmx : ∀ ts t W, (Builtin.max_ ts t #[.int .i64 0, .int .i64 z4]).run Tryz.prog W = .ok (.int .i64 (p : Int)) W := fun ts t W => run_max2 (P := Tryz.prog) 0 z4 (p : Int) (by omega) ts t W
                have hst := HO.out.1.step HR.out.1 (by omega)
                rw [hp, hz4] at hst
                have hz4b : -4 < z4 := by omega
                have hz4c : z4 < (zn : Int) := by omega
                have hpz : p < zn := by omega
                have hp4 : zn ≤ p + 4 := by omega
                have HS := Lib.hid hst
                have HZ := Lib.hid hz4
                clear hst hp
                go_wp2_with fail
                clear hmx hz4
                go_loop [9, 10] (fun s9 s10 => ∃ v i : Nat, s9 = .int .i64 (v : Int) ∧ s10 = .int .i64 (i : Int) ∧ p ≤ i ∧ i ≤ zn ∧ v < 10000 ∧ Hid (Txt.decVal ((t.drop p).take (i - p)) = v)) (fun _ s10 => zn - (intOf s10).toNat)
                case atStart => exact ⟨0, p, rfl, rfl, by omega, by omega, by omega, by show _ = _; rw [Nat.sub_self, List.take_zero]; rfl⟩
                case round =>
                  obtain ⟨v, i, rfl, rfl, hi1, hi2, hv, HV⟩ := hrel
                  by_cases hlt : i < zn
                  · have hic : i < c.size := by omega
                    have hc := str_at HR.out.2.2.2.2.symm hic
                    obtain ⟨e, hcc⟩ : ∃ e, c[i] = e := ⟨_, rfl⟩
                    rw [hcc] at hc
                    have hdg := HR.out.1 e (List.mem_of_getElem? hc)
                    unfold Txt.isDig at hdg
                    obtain ⟨j, hj⟩ : ∃ j, i = p + j := ⟨i - p, by omega⟩
                    have hnx := Txt.decVal_next (t := t) (a := p) (j := j) (c := e) (by rw [← hj]; exact hc)
                    have hlt4 := Txt.decVal_lt ((HR.out.1.drop p).take (j + 1))
                    have hV := HV.out
                    rw [show i - p = j by omega] at hV
                    rw [hnx, hV] at hlt4
                    rw [hV] at hnx
                    have hb4 : v * 10 + (e.toNat - 48) < 10000 := Nat.lt_of_lt_of_le hlt4 (Nat.le_trans (Nat.pow_le_pow_right (by omega) (show _ ≤ 4 by simp; omega)) (by decide))
                    obtain ⟨x, hx⟩ : ∃ x : Nat, e.toNat - 48 = x := ⟨_, rfl⟩
                    have hxi : (e.toNat : Int) - 48 = (x : Int) := by omega
                    have hxb : x ≤ 9 := by omega
                    rw [hx] at hb4 hnx
                    obtain ⟨y, hy⟩ : ∃ y : Nat, v * 10 + x = y := ⟨_, rfl⟩
                    have hyi : 10 * (v : Int) + (x : Int) = (y : Int) := by omega
                    have HN : Hid (Txt.decVal ((t.drop p).take (i + 1 - p)) = y) := by
                      show _ = _
                      rw [show i + 1 - p = j + 1 by omega, hnx, hy]
                    have hyb : y < 10000 := by omega
                    clear hc hj hnx hlt4 hV hb4 hx hy HV hdg
                    go_wp2
                    go_round
                    case rel => exact ⟨y, i + 1, rfl, by go_num, by omega, by omega, by omega, HN⟩
                    case measure => simp [intOf]; omega
                  · obtain rfl : i = zn := by omega
                    have hge : decide ((i : Int) < (i : Int)) = false := by simp
                    clear hlt hi2
                    go_wp2_with (at_builtin; refine wpList_app elemInts rfl _ _ rfl rfl (HO.out.2.1.alloc _) rfl (Rd.lit (nv .i64 [v]) rfl) (nv_one _) (by simp only [maxLen]; omega) (by omega) (by have := HO.out.2.2.2.size; simp; omega) ?_; intro R' d' w1 hown hg hat; have HA := Lib.hid (And.intro hown hg); clear hown hg hat; have hz4 := HZ.out)
                    go_roundw
                    case rel =>
                      obtain ⟨hown, hg⟩ := HA.out
                      rw [← nv_append] at hown
                      have hS := HS.out
                      rw [HV.out] at hS
                      have hl5 := hS.len hz4b
                      have htl := HR.out.2.1
                      have hol := HO.out.2.2.1
                      rw [List.length_append, List.length_singleton] at hl5
                      refine ⟨R', m + 1, d', z4, o ++ [v], rfl, rfl, hz4b, by omega, by omega, hS, hown, by rw [List.length_append, List.length_singleton, hol], ?_⟩
                      exact (HO.out.2.2.2.alloc _).grown hg (fun k hk hlt => by have := own_blk_le HO.out.2.1 hk; omega)
                    case measure => simp [intOf]; omega
              · have hge : decide ((0 : Int) < z) = false := by simp; omega
                obtain ⟨hdg, hvl⟩ := HO.out.1.done (by omega)
                have hnr := normal_rn true R m d o wo (Rd.of_own HO.out.2.1) hdg (own_cap HO.out.2.1).1 (own_cap HO.out.2.1).2
                rw [hvl] at hnr
                obtain ⟨V, hV⟩ : ∃ V : Int, sg true (Txt.decVal t) = V := ⟨_, rfl⟩
                rw [hV] at hnr
                have hZV := HR.out.2.2.1
                have hEV := HR.out.2.2.2.1
                rw [hV] at hZV hEV
                have HX := Lib.hid (And.intro hnr (And.intro (HO.out.2.2.2) (And.intro hZV hEV)))
                clear hdg hvl hnr hV hZV hEV HO
                go_wp2_with fail
                clear hge
                refine HX.out.1.mono ?_
                rintro e w5 ⟨v5, rfl, ⟨s5, A5, n5, c5, rfl, hs5, hm5⟩, hn5⟩
                have hr5 : RN w5 (.agg #[.bool s5, .slice A5 n5 c5]) V := ⟨s5, A5, n5, c5, rfl, hs5, hm5⟩
                have H5 := Lib.hid (And.intro hr5 hn5)
                clear hr5 hs5 hm5 hn5
                go_wp2_with fail
                refine Calls.new1 ?_
                intro W6 hb6 hn6 hz6
                obtain ⟨g6, hg6⟩ : ∃ x, w5.heap.size = x := ⟨_, rfl⟩
                rw [hg6] at hb6
                simp only [hg6]
                have hNW : New W W6 := (HX.out.2.1.new H5.out.2).new hn6
                obtain ⟨F, hF⟩ : ∃ F, decide (V.natAbs < topN) = F := ⟨_, rfl⟩
                refine (fits_any _ V W6 (H5.out.1.new hn6) F hF).mono ?_
                rintro e w7 ⟨rfl, hn7⟩
                have hb2 := HW.out.1.chg (hNW.new hn7) (fun h => h)
                have hb67 := hb6.chg hn7 (fun h => h)
                have q20 := hb2.cell 0 rfl
                have q21 := hb2.cell 1 rfl
                have p20 := hb2.frozen 0
                have p21 := hb2.frozen 1
                have q60 := hb67.cell 0 (u := .bool s5) rfl
                have q61 := hb67.cell 1 (u := .slice A5 n5 c5) rfl
                have HY := Lib.hid (And.intro hb2 (And.intro ((H5.out.1.new hn6).new hn7) (And.intro (HW.out.2.1.new (hNW.new hn7)) hF)))
                clear hb2 hb67 hb6 hn6 hz6 hg6 hNW hn7 hF k20 k21 f20 f21
                by_cases hf : V.natAbs < topN
                · obtain rfl : F = true := by rw [← HY.out.2.2.2]; simp [hf]
                  have hin := rg_in hf
                  obtain rfl : E = 0 := by rw [HX.out.2.2.2, hin.2]
                  obtain rfl : Z = V := by rw [HX.out.2.2.1, hin.1]
                  have HYY := Lib.hid (And.intro HY.out.1 (And.intro HY.out.2.1 HY.out.2.2.1))
                  clear hin hf HX HY HR
                  go_wp2
                  refine bodyPost_ret (res_ct rfl _ rfl (aggN.load (HYY.out.1.set2 _ _)) rfl) rfl ⟨s5, A5, n5, c5, rfl, HYY.out.2.1.store HYY.out.1 (noInt_two' _ _ _ _) (Chg.at2 _ _ _ _), ?_⟩
                  exact Chg.owned HYY.out.2.2 (Chg.at2 _ _ _ _) (fun k e => by have := HW.out.2.2; omega)
                · obtain rfl : F = false := by rw [← HY.out.2.2.2]; simp [hf]
                  have hout := rg_out hf
                  obtain rfl : E = 4 := by rw [HX.out.2.2.2, hout.2]
                  obtain rfl : Z = 0 := by rw [HX.out.2.2.1, hout.1]
                  clear hout hf HX HR
                  go_wp2
                  refine bodyPost_ret (res_ct rfl _ rfl (aggN.load (HY.out.1.set2 _ _)) rfl) rfl ⟨false, none, 0, 0, rfl, RN.zero _, ?_⟩
                  exact Chg.owned HY.out.2.2.1 (Chg.at2 _ _ _ _) (fun k e => by have := HW.out.2.2; omega)
  · go_upto_region 7 with fail
    clear h45
    refine Code.new1 ?_
    intro W hb2 hnW hzW
    obtain ⟨g2, hg2⟩ : ∃ x, w.heap.size = x := ⟨_, rfl⟩
    rw [hg2] at hb2
    simp only [hg2]
    have HW := Lib.hid (And.intro hb2 (And.intro hnW hg2))
    have k20 := hb2.cell 0 rfl
    have k21 := hb2.cell 1 rfl
    have f20 := hb2.frozen 0
    have f21 := hb2.frozen 1
    clear hb2 hnW hzW hg2
    by_cases h0 : c.size = 0
    · omega
    · have hs0 : ((c.size : Int) == 0) = false := beq_eq_false_iff_ne.2 (by omega)
      have hs0' : (c.size == 0) = false := beq_eq_false_iff_ne.2 (by omega)
      have hpos : 0 < c.size := by omega
      have hhd := head_at H0.out.1.symm hpos
      rw [ha] at hhd
      have HH := Lib.hid hhd
      clear hhd h0
      by_cases h48 : a = 48
      · subst h48
        by_cases hl1 : 1 < c.size
        · have hl1i : (1 : Int) < (c.size : Int) := by omega
          obtain ⟨rfl, rfl⟩ := H0.out.2.2.2.2.bad (not_pass H0.out.2.1 H0.out.2.2.1 (fun hpp => by have := (hpp.2 HH.out).2; have := H0.out.2.2.2.1; omega))
          go_wp2
          refine bodyPost_ret (res_ct rfl _ rfl (aggN.load (HW.out.1.set2 _ _)) rfl) rfl ⟨false, none, 0, 0, rfl, RN.zero _, ?_⟩
          exact Chg.owned HW.out.2.1 (Chg.at2 _ _ _ _) (fun k e => by have := HW.out.2.2; omega)
        · have hl1i : decide ((1 : Int) < (c.size : Int)) = false := by simp; omega
          have hl1n : decide (1 < c.size) = false := by simp; omega
          have HP : Hid (Pass false t) := ⟨fun e => by have := H0.out.2.2.2.1; rw [e] at this; simp at this; omega, fun _ => ⟨rfl, by have := H0.out.2.2.2.1; omega⟩⟩
          go_upto_region 9 with fail
          clear hs0 hs0' hpos ha hl1 hl1i hl1n HH
          go_wp2_with fail
          clear h1 h1' hn
          go_loop [6] (fun i => ∃ k : Nat, i = .int .i64 (k : Int) ∧ k ≤ c.size ∧ Hid (Txt.AllDig (t.take k))) (fun i => c.size - (intOf i).toNat)
          case atStart => exact ⟨0, rfl, by omega, by show Txt.AllDig _; rw [List.take_zero]; exact Txt.AllDig.nil⟩
          case round =>
            obtain ⟨k, rfl, hk, HA⟩ := hrel
            by_cases hlt : k < c.size
            · have hc := str_at H0.out.1.symm hlt
              obtain ⟨e, hcc⟩ : ∃ e, c[k] = e := ⟨_, rfl⟩
              rw [hcc] at hc
              by_cases hd : Txt.isDig e
              · have hd' := hd
                unfold Txt.isDig at hd
                have h1 : decide ((e.toNat : Int) < 48) = false := by simp; omega
                have h2 : decide (57 < (e.toNat : Int)) = false := by simp; omega
                have HN : Hid (Txt.AllDig (t.take (k + 1))) := by
                  show Txt.AllDig _
                  rw [List.take_add_one, hc]
                  refine HA.out.append (fun x hx => ?_)
                  rw [show (some e).toList = [e] by rfl, List.mem_singleton] at hx
                  subst hx
                  exact hd'
                clear hc hd hd' HA
                go_wp2
                go_round
                case rel => exact ⟨k + 1, by go_num, by omega, HN⟩
                case measure => simp [intOf]; omega
              · obtain ⟨rfl, rfl⟩ := H0.out.2.2.2.2.bad (not_dig H0.out.2.1 hc hd)
                unfold Txt.isDig at hd
                by_cases h1 : e.toNat < 48
                · have h1' : (e.toNat : Int) < 48 := by omega
                  clear hc hd HA
                  go_wp2
                  refine bodyPost_ret (res_ct rfl _ rfl (aggN.load (HW.out.1.set2 _ _)) rfl) rfl ⟨false, none, 0, 0, rfl, RN.zero _, ?_⟩
                  exact Chg.owned HW.out.2.1 (Chg.at2 _ _ _ _) (fun k e => by have := HW.out.2.2; omega)
                · have h1' : decide ((e.toNat : Int) < 48) = false := by simp; omega
                  have h2' : 57 < (e.toNat : Int) := by omega
                  clear hc hd HA
                  go_wp2
                  refine bodyPost_ret (res_ct rfl _ rfl (aggN.load (HW.out.1.set2 _ _)) rfl) rfl ⟨false, none, 0, 0, rfl, RN.zero _, ?_⟩
                  exact Chg.owned HW.out.2.1 (Chg.at2 _ _ _ _) (fun k e => by have := HW.out.2.2; omega)
            · obtain rfl : c.size = k := by omega
              have hall : Txt.AllDig t := by have := HA.out; rwa [List.take_of_length_le (by have := H0.out.2.2.2.1; omega)] at this
              have hge : decide (((c.size : Nat) : Int) < ((c.size : Nat) : Int)) = false := by simp
              have hrd := pass_reads H0.out.2.1 H0.out.2.2.1 HP.out hall
              obtain ⟨hZ, hE⟩ := H0.out.2.2.2.2.ok hrd
              have HR := Lib.hid (And.intro hall (And.intro H0.out.2.2.2.1 (And.intro hZ (And.intro hE H0.out.1))))
              clear hall hrd hZ hE HA hk hlt HP H0
              go_wp2_with fail
              clear hge
              go_loopw [7, 8, 9, 10] (fun s7 s8 _ _ wr => ∃ (R : Option Addr) (m d : Nat) (z : Int) (o : List Nat), s7 = .slice R m d ∧ s8 = .int .i64 z ∧ -4 < z ∧ z ≤ (c.size : Int) ∧ m ≤ 5000 ∧ Hid (Txt.PrI t z o ∧ wr.ownsRow W.heap.size 3 1 (.slice R m d) m (nv .i64 o) ∧ o.length = m ∧ New W wr)) (fun _ s8 _ _ _ => (intOf s8 + 4).toNat)
              case atStart => exact ⟨none, 0, 0, (c.size : Int), [], rfl, rfl, by omega, by omega, by omega, by have := Txt.PrI.start t; rwa [HR.out.2.1] at this, World.ownsRow_nil _ _ _ _, rfl, Chg.refl _ _⟩
              case round =>
                obtain ⟨R, m, d, z, o, rfl, rfl, hz1, hz2, hm, HO⟩ := hrel
                obtain ⟨wo, rfl⟩ : ∃ wo : World, wo = wr := ⟨_, rfl⟩
                by_cases h0 : 0 < z
                · obtain ⟨zn, rfl⟩ : ∃ zn : Nat, z = zn := ⟨z.toNat, by omega⟩
                  obtain ⟨z4, hz4⟩ : ∃ z4 : Int, (zn : Int) - 4 = z4 := ⟨_, rfl⟩
                  obtain ⟨p, hp⟩ : ∃ p : Nat, zn - 4 = p := ⟨_, rfl⟩
                  have hmx : ∀ ts t W, (Builtin.max_ ts t #[.int .i64 0, .int .i64 z4]).run Tryz.prog W = .ok (.int .i64 (p : Int)) W := fun ts t W => run_max2 (P := Tryz.prog) 0 z4 (p : Int) (by omega) ts t W
                  have hst := HO.out.1.step HR.out.1 (by omega)
                  rw [hp, hz4] at hst
                  have hz4b : -4 < z4 := by omega
                  have hz4c : z4 < (zn : Int) := by omega
                  have hpz : p < zn := by omega
                  have hp4 : zn ≤ p + 4 := by omega
                  have HS := Lib.hid hst
                  have HZ := Lib.hid hz4
                  clear hst hp
                  go_wp2_with fail
                  clear hmx hz4
                  go_loop [9, 10] (fun s9 s10 => ∃ v i : Nat, s9 = .int .i64 (v : Int) ∧ s10 = .int .i64 (i : Int) ∧ p ≤ i ∧ i ≤ zn ∧ v < 10000 ∧ Hid (Txt.decVal ((t.drop p).take (i - p)) = v)) (fun _ s10 => zn - (intOf s10).toNat)
                  case atStart => exact ⟨0, p, rfl, rfl, by omega, by omega, by omega, by show _ = _; rw [Nat.sub_self, List.take_zero]; rfl⟩
                  case round =>
                    obtain ⟨v, i, rfl, rfl, hi1, hi2, hv, HV⟩ := hrel
                    by_cases hlt : i < zn
                    · have hic : i < c.size := by omega
                      have hc := str_at HR.out.2.2.2.2.symm hic
                      obtain ⟨e, hcc⟩ : ∃ e, c[i] = e := ⟨_, rfl⟩
                      rw [hcc] at hc
                      have hdg := HR.out.1 e (List.mem_of_getElem? hc)
                      unfold Txt.isDig at hdg
                      obtain ⟨j, hj⟩ : ∃ j, i = p + j := ⟨i - p, by omega⟩
                      have hnx := Txt.decVal_next (t := t) (a := p) (j := j) (c := e) (by rw [← hj]; exact hc)
                      have hlt4 := Txt.decVal_lt ((HR.out.1.drop p).take (j + 1))
                      have hV := HV.out
                      rw [show i - p = j by omega] at hV
                      rw [hnx, hV] at hlt4
                      rw [hV] at hnx
                      have hb4 : v * 10 + (e.toNat - 48) < 10000 := Nat.lt_of_lt_of_le hlt4 (Nat.le_trans (Nat.pow_le_pow_right (by omega) (show _ ≤ 4 by simp; omega)) (by decide))
                      obtain ⟨x, hx⟩ : ∃ x : Nat, e.toNat - 48 = x := ⟨_, rfl⟩
                      have hxi : (e.toNat : Int) - 48 = (x : Int) := by omega
                      have hxb : x ≤ 9 := by omega
                      rw [hx] at hb4 hnx
                      obtain ⟨y, hy⟩ : ∃ y : Nat, v * 10 + x = y := ⟨_, rfl⟩
                      have hyi : 10 * (v : Int) + (x : Int) = (y : Int) := by omega
                      have HN : Hid (Txt.decVal ((t.drop p).take (i + 1 - p)) = y) := by
                        show _ = _
                        rw [show i + 1 - p = j + 1 by omega, hnx, hy]
                      have hyb : y < 10000 := by omega
                      clear hc hj hnx hlt4 hV hb4 hx hy HV hdg
                      go_wp2
                      go_round
                      case rel => exact ⟨y, i + 1, rfl, by go_num, by omega, by omega, by omega, HN⟩
                      case measure => simp [intOf]; omega
                    · obtain rfl : i = zn := by omega
                      have hge : decide ((i : Int) < (i : Int)) = false := by simp
                      clear hlt hi2
                      go_wp2_with (at_builtin; refine wpList_app elemInts rfl _ _ rfl rfl (HO.out.2.1.alloc _) rfl (Rd.lit (nv .i64 [v]) rfl) (nv_one _) (by simp only [maxLen]; omega) (by omega) (by have := HO.out.2.2.2.size; simp; omega) ?_; intro R' d' w1 hown hg hat; have HA := Lib.hid (And.intro hown hg); clear hown hg hat; have hz4 := HZ.out)
                      go_roundw
                      case rel =>
                        obtain ⟨hown, hg⟩ := HA.out
                        rw [← nv_append] at hown
                        have hS := HS.out
                        rw [HV.out] at hS
                        have hl5 := hS.len hz4b
                        have htl := HR.out.2.1
                        have hol := HO.out.2.2.1
                        rw [List.length_append, List.length_singleton] at hl5
                        refine ⟨R', m + 1, d', z4, o ++ [v], rfl, rfl, hz4b, by omega, by omega, hS, hown, by rw [List.length_append, List.length_singleton, hol], ?_⟩
                        exact (HO.out.2.2.2.alloc _).grown hg (fun k hk hlt => by have := own_blk_le HO.out.2.1 hk; omega)
                      case measure => simp [intOf]; omega
                · have hge : decide ((0 : Int) < z) = false := by simp; omega
                  obtain ⟨hdg, hvl⟩ := HO.out.1.done (by omega)
                  have hnr := normal_rn false R m d o wo (Rd.of_own HO.out.2.1) hdg (own_cap HO.out.2.1).1 (own_cap HO.out.2.1).2
                  rw [hvl] at hnr
                  obtain ⟨V, hV⟩ : ∃ V : Int, sg false (Txt.decVal t) = V := ⟨_, rfl⟩
                  rw [hV] at hnr
                  have hZV := HR.out.2.2.1
                  have hEV := HR.out.2.2.2.1
                  rw [hV] at hZV hEV
                  have HX := Lib.hid (And.intro hnr (And.intro (HO.out.2.2.2) (And.intro hZV hEV)))
                  clear hdg hvl hnr hV hZV hEV HO
                  go_wp2_with fail
                  clear hge
                  refine HX.out.1.mono ?_
                  rintro e w5 ⟨v5, rfl, ⟨s5, A5, n5, c5, rfl, hs5, hm5⟩, hn5⟩
                  have hr5 : RN w5 (.agg #[.bool s5, .slice A5 n5 c5]) V := ⟨s5, A5, n5, c5, rfl, hs5, hm5⟩
                  have H5 := Lib.hid (And.intro hr5 hn5)
                  clear hr5 hs5 hm5 hn5
                  go_wp2_with fail
                  refine Calls.new1 ?_
                  intro W6 hb6 hn6 hz6
                  obtain ⟨g6, hg6⟩ : ∃ x, w5.heap.size = x := ⟨_, rfl⟩
                  rw [hg6] at hb6
                  simp only [hg6]
                  have hNW : New W W6 := (HX.out.2.1.new H5.out.2).new hn6
                  obtain ⟨F, hF⟩ : ∃ F, decide (V.natAbs < topN) = F := ⟨_, rfl⟩
                  refine (fits_any _ V W6 (H5.out.1.new hn6) F hF).mono ?_
                  rintro e w7 ⟨rfl, hn7⟩
                  have hb2 := HW.out.1.chg (hNW.new hn7) (fun h => h)
                  have hb67 := hb6.chg hn7 (fun h => h)
                  have q20 := hb2.cell 0 rfl
                  have q21 := hb2.cell 1 rfl
                  have p20 := hb2.frozen 0
                  have p21 := hb2.frozen 1
                  have q60 := hb67.cell 0 (u := .bool s5) rfl
                  have q61 := hb67.cell 1 (u := .slice A5 n5 c5) rfl
                  have HY := Lib.hid (And.intro hb2 (And.intro ((H5.out.1.new hn6).new hn7) (And.intro (HW.out.2.1.new (hNW.new hn7)) hF)))
                  clear hb2 hb67 hb6 hn6 hz6 hg6 hNW hn7 hF k20 k21 f20 f21
                  by_cases hf : V.natAbs < topN
                  · obtain rfl : F = true := by rw [← HY.out.2.2.2]; simp [hf]
                    have hin := rg_in hf
                    obtain rfl : E = 0 := by rw [HX.out.2.2.2, hin.2]
                    obtain rfl : Z = V := by rw [HX.out.2.2.1, hin.1]
                    have HYY := Lib.hid (And.intro HY.out.1 (And.intro HY.out.2.1 HY.out.2.2.1))
                    clear hin hf HX HY HR
                    go_wp2
                    refine bodyPost_ret (res_ct rfl _ rfl (aggN.load (HYY.out.1.set2 _ _)) rfl) rfl ⟨s5, A5, n5, c5, rfl, HYY.out.2.1.store HYY.out.1 (noInt_two' _ _ _ _) (Chg.at2 _ _ _ _), ?_⟩
                    exact Chg.owned HYY.out.2.2 (Chg.at2 _ _ _ _) (fun k e => by have := HW.out.2.2; omega)
                  · obtain rfl : F = false := by rw [← HY.out.2.2.2]; simp [hf]
                    have hout := rg_out hf
                    obtain rfl : E = 4 := by rw [HX.out.2.2.2, hout.2]
                    obtain rfl : Z = 0 := by rw [HX.out.2.2.1, hout.1]
                    clear hout hf HX HR
                    go_wp2
                    refine bodyPost_ret (res_ct rfl _ rfl (aggN.load (HY.out.1.set2 _ _)) rfl) rfl ⟨false, none, 0, 0, rfl, RN.zero _, ?_⟩
                    exact Chg.owned HY.out.2.2.1 (Chg.at2 _ _ _ _) (fun k e => by have := HW.out.2.2; omega)
      · have h48i : ((a.toNat : Int) == 48) = false := by
          rw [beq_eq_false_iff_ne]
          intro e
          exact h48 (UInt8.toNat_inj.1 (by simpa using (by omega : a.toNat = 48)))
        have HP : Hid (Pass false t) := ⟨fun e => by have := H0.out.2.2.2.1; rw [e] at this; simp at this; omega, fun e => by rw [HH.out] at e; simp at e; exact absurd e h48⟩
        go_upto_region 9 with fail
        clear hs0 hs0' hpos ha h48 h48i HH
        go_wp2_with fail
        clear h1 h1' hn
        go_loop [6] (fun i => ∃ k : Nat, i = .int .i64 (k : Int) ∧ k ≤ c.size ∧ Hid (Txt.AllDig (t.take k))) (fun i => c.size - (intOf i).toNat)
        case atStart => exact ⟨0, rfl, by omega, by show Txt.AllDig _; rw [List.take_zero]; exact Txt.AllDig.nil⟩
        case round =>
          obtain ⟨k, rfl, hk, HA⟩ := hrel
          by_cases hlt : k < c.size
          · have hc := str_at H0.out.1.symm hlt
            obtain ⟨e, hcc⟩ : ∃ e, c[k] = e := ⟨_, rfl⟩
            rw [hcc] at hc
            by_cases hd : Txt.isDig e
            · have hd' := hd
              unfold Txt.isDig at hd
              have h1 : decide ((e.toNat : Int) < 48) = false := by simp; omega
              have h2 : decide (57 < (e.toNat : Int)) = false := by simp; omega
              have HN : Hid (Txt.AllDig (t.take (k + 1))) := by
                show Txt.AllDig _
                rw [List.take_add_one, hc]
                refine HA.out.append (fun x hx => ?_)
                rw [show (some e).toList = [e] by rfl, List.mem_singleton] at hx
                subst hx
                exact hd'
              clear hc hd hd' HA
              go_wp2
              go_round
              case rel => exact ⟨k + 1, by go_num, by omega, HN⟩
              case measure => simp [intOf]; omega
            · obtain ⟨rfl, rfl⟩ := H0.out.2.2.2.2.bad (not_dig H0.out.2.1 hc hd)
              unfold Txt.isDig at hd
              by_cases h1 : e.toNat < 48
              · have h1' : (e.toNat : Int) < 48 := by omega
                clear hc hd HA
                go_wp2
                refine bodyPost_ret (res_ct rfl _ rfl (aggN.load (HW.out.1.set2 _ _)) rfl) rfl ⟨false, none, 0, 0, rfl, RN.zero _, ?_⟩
                exact Chg.owned HW.out.2.1 (Chg.at2 _ _ _ _) (fun k e => by have := HW.out.2.2; omega)
              · have h1' : decide ((e.toNat : Int) < 48) = false := by simp; omega
                have h2' : 57 < (e.toNat : Int) := by omega
                clear hc hd HA
                go_wp2
                refine bodyPost_ret (res_ct rfl _ rfl (aggN.load (HW.out.1.set2 _ _)) rfl) rfl ⟨false, none, 0, 0, rfl, RN.zero _, ?_⟩
                exact Chg.owned HW.out.2.1 (Chg.at2 _ _ _ _) (fun k e => by have := HW.out.2.2; omega)
          · obtain rfl : c.size = k := by omega
            have hall : Txt.AllDig t := by have := HA.out; rwa [List.take_of_length_le (by have := H0.out.2.2.2.1; omega)] at this
            have hge : decide (((c.size : Nat) : Int) < ((c.size : Nat) : Int)) = false := by simp
            have hrd := pass_reads H0.out.2.1 H0.out.2.2.1 HP.out hall
            obtain ⟨hZ, hE⟩ := H0.out.2.2.2.2.ok hrd
            have HR := Lib.hid (And.intro hall (And.intro H0.out.2.2.2.1 (And.intro hZ (And.intro hE H0.out.1))))
            clear hall hrd hZ hE HA hk hlt HP H0
            go_wp2_with fail
            clear hge
            go_loopw [7, 8, 9, 10] (fun s7 s8 _ _ wr => ∃ (R : Option Addr) (m d : Nat) (z : Int) (o : List Nat), s7 = .slice R m d ∧ s8 = .int .i64 z ∧ -4 < z ∧ z ≤ (c.size : Int) ∧ m ≤ 5000 ∧ Hid (Txt.PrI t z o ∧ wr.ownsRow W.heap.size 3 1 (.slice R m d) m (nv .i64 o) ∧ o.length = m ∧ New W wr)) (fun _ s8 _ _ _ => (intOf s8 + 4).toNat)
            case atStart => exact ⟨none, 0, 0, (c.size : Int), [], rfl, rfl, by omega, by omega, by omega, by have := Txt.PrI.start t; rwa [HR.out.2.1] at this, World.ownsRow_nil _ _ _ _, rfl, Chg.refl _ _⟩
            case round =>
              obtain ⟨R, m, d, z, o, rfl, rfl, hz1, hz2, hm, HO⟩ := hrel
              obtain ⟨wo, rfl⟩ : ∃ wo : World, wo = wr := ⟨_, rfl⟩
              by_cases h0 : 0 < z
              · obtain ⟨zn, rfl⟩ : ∃ zn : Nat, z = zn := ⟨z.toNat, by omega⟩
                obtain ⟨z4, hz4⟩ : ∃ z4 : Int, (zn : Int) - 4 = z4 := ⟨_, rfl⟩
                obtain ⟨p, hp⟩ : ∃ p : Nat, zn - 4 = p := ⟨_, rfl⟩
                have hmx : ∀ ts t W, (Builtin.max_ ts t #[.int .i64 0, .int .i64 z4]).run Tryz.prog W = .ok (.int .i64 (p : Int)) W := fun ts t W => run_max2 (P := Tryz.prog) 0 z4 (p : Int) (by omega) ts t W
                have hst := HO.out.1.step HR.out.1 (by omega)
                rw [hp, hz4] at hst
                have hz4b : -4 < z4 := by omega
                have hz4c : z4 < (zn : Int) := by omega
                have hpz : p < zn := by omega
                have hp4 : zn ≤ p + 4 := by omega
                have HS := Lib.hid hst
                have HZ := Lib.hid hz4
                clear hst hp
                go_wp2_with fail
                clear hmx hz4
                go_loop [9, 10] (fun s9 s10 => ∃ v i : Nat, s9 = .int .i64 (v : Int) ∧ s10 = .int .i64 (i : Int) ∧ p ≤ i ∧ i ≤ zn ∧ v < 10000 ∧ Hid (Txt.decVal ((t.drop p).take (i - p)) = v)) (fun _ s10 => zn - (intOf s10).toNat)
                case atStart => exact ⟨0, p, rfl, rfl, by omega, by omega, by omega, by show _ = _; rw [Nat.sub_self, List.take_zero]; rfl⟩
                case round =>
                  obtain ⟨v, i, rfl, rfl, hi1, hi2, hv, HV⟩ := hrel
                  by_cases hlt : i < zn
                  · have hic : i < c.size := by omega
                    have hc := str_at HR.out.2.2.2.2.symm hic
                    obtain ⟨e, hcc⟩ : ∃ e, c[i] = e := ⟨_, rfl⟩
                    rw [hcc] at hc
                    have hdg := HR.out.1 e (List.mem_of_getElem? hc)
                    unfold Txt.isDig at hdg
                    obtain ⟨j, hj⟩ : ∃ j, i = p + j := ⟨i - p, by omega⟩
                    have hnx := Txt.decVal_next (t := t) (a := p) (j := j) (c := e) (by rw [← hj]; exact hc)
                    have hlt4 := Txt.decVal_lt ((HR.out.1.drop p).take (j + 1))
                    have hV := HV.out
                    rw [show i - p = j by omega] at hV
                    rw [hnx, hV] at hlt4
                    rw [hV] at hnx
                    have hb4 : v * 10 + (e.toNat - 48) < 10000 := Nat.lt_of_lt_of_le hlt4 (Nat.le_trans (Nat.pow_le_pow_right (by omega) (show _ ≤ 4 by simp; omega)) (by decide))
                    obtain ⟨x, hx⟩ : ∃ x : Nat, e.toNat - 48 = x := ⟨_, rfl⟩
                    have hxi : (e.toNat : Int) - 48 = (x : Int) := by omega
                    have hxb : x ≤ 9 := by omega
                    rw [hx] at hb4 hnx
                    obtain ⟨y, hy⟩ : ∃ y : Nat, v * 10 + x = y := ⟨_, rfl⟩
                    have hyi : 10 * (v : Int) + (x : Int) = (y : Int) := by omega
                    have HN : Hid (Txt.decVal ((t.drop p).take (i + 1 - p)) = y) := by
                      show _ = _
                      rw [show i + 1 - p = j + 1 by omega, hnx, hy]
                    have hyb : y < 10000 := by omega
                    clear hc hj hnx hlt4 hV hb4 hx hy HV hdg
                    go_wp2
                    go_round
                    case rel => exact ⟨y, i + 1, rfl, by go_num, by omega, by omega, by omega, HN⟩
                    case measure => simp [intOf]; omega
                  · obtain rfl : i = zn := by omega
                    have hge : decide ((i : Int) < (i : Int)) = false := by simp
                    clear hlt hi2
                    go_wp2_with (at_builtin; refine wpList_app elemInts rfl _ _ rfl rfl (HO.out.2.1.alloc _) rfl (Rd.lit (nv .i64 [v]) rfl) (nv_one _) (by simp only [maxLen]; omega) (by omega) (by have := HO.out.2.2.2.size; simp; omega) ?_; intro R' d' w1 hown hg hat; have HA := Lib.hid (And.intro hown hg); clear hown hg hat; have hz4 := HZ.out)
                    go_roundw
                    case rel =>
                      obtain ⟨hown, hg⟩ := HA.out
                      rw [← nv_append] at hown
                      have hS := HS.out
                      rw [HV.out] at hS
                      have hl5 := hS.len hz4b
                      have htl := HR.out.2.1
                      have hol := HO.out.2.2.1
                      rw [List.length_append, List.length_singleton] at hl5
                      refine ⟨R', m + 1, d', z4, o ++ [v], rfl, rfl, hz4b, by omega, by omega, hS, hown, by rw [List.length_append, List.length_singleton, hol], ?_⟩
                      exact (HO.out.2.2.2.alloc _).grown hg (fun k hk hlt => by have := own_blk_le HO.out.2.1 hk; omega)
                    case measure => simp [intOf]; omega
              · have hge : decide ((0 : Int) < z) = false := by simp; omega
                obtain ⟨hdg, hvl⟩ := HO.out.1.done (by omega)
                have hnr := normal_rn false R m d o wo (Rd.of_own HO.out.2.1) hdg (own_cap HO.out.2.1).1 (own_cap HO.out.2.1).2
                rw [hvl] at hnr
                obtain ⟨V, hV⟩ : ∃ V : Int, sg false (Txt.decVal t) = V := ⟨_, rfl⟩
                rw [hV] at hnr
                have hZV := HR.out.2.2.1
                have hEV := HR.out.2.2.2.1
                rw [hV] at hZV hEV
                have HX := Lib.hid (And.intro hnr (And.intro (HO.out.2.2.2) (And.intro hZV hEV)))
                clear hdg hvl hnr hV hZV hEV HO
                go_wp2_with fail
                clear hge
                refine HX.out.1.mono ?_
                rintro e w5 ⟨v5, rfl, ⟨s5, A5, n5, c5, rfl, hs5, hm5⟩, hn5⟩
                have hr5 : RN w5 (.agg #[.bool s5, .slice A5 n5 c5]) V := ⟨s5, A5, n5, c5, rfl, hs5, hm5⟩
                have H5 := Lib.hid (And.intro hr5 hn5)
                clear hr5 hs5 hm5 hn5
                go_wp2_with fail
                refine Calls.new1 ?_
                intro W6 hb6 hn6 hz6
                obtain ⟨g6, hg6⟩ : ∃ x, w5.heap.size = x := ⟨_, rfl⟩
                rw [hg6] at hb6
                simp only [hg6]
                have hNW : New W W6 := (HX.out.2.1.new H5.out.2).new hn6
                obtain ⟨F, hF⟩ : ∃ F, decide (V.natAbs < topN) = F := ⟨_, rfl⟩
                refine (fits_any _ V W6 (H5.out.1.new hn6) F hF).mono ?_
                rintro e w7 ⟨rfl, hn7⟩
                have hb2 := HW.out.1.chg (hNW.new hn7) (fun h => h)
                have hb67 := hb6.chg hn7 (fun h => h)
                have q20 := hb2.cell 0 rfl
                have q21 := hb2.cell 1 rfl
                have p20 := hb2.frozen 0
                have p21 := hb2.frozen 1
                have q60 := hb67.cell 0 (u := .bool s5) rfl
                have q61 := hb67.cell 1 (u := .slice A5 n5 c5) rfl
                have HY := Lib.hid (And.intro hb2 (And.intro ((H5.out.1.new hn6).new hn7) (And.intro (HW.out.2.1.new (hNW.new hn7)) hF)))
                clear hb2 hb67 hb6 hn6 hz6 hg6 hNW hn7 hF k20 k21 f20 f21
                by_cases hf : V.natAbs < topN
                · obtain rfl : F = true := by rw [← HY.out.2.2.2]; simp [hf]
                  have hin := rg_in hf
                  obtain rfl : E = 0 := by rw [HX.out.2.2.2, hin.2]
                  obtain rfl : Z = V := by rw [HX.out.2.2.1, hin.1]
                  have HYY := Lib.hid (And.intro HY.out.1 (And.intro HY.out.2.1 HY.out.2.2.1))
                  clear hin hf HX HY HR
                  go_wp2
                  refine bodyPost_ret (res_ct rfl _ rfl (aggN.load (HYY.out.1.set2 _ _)) rfl) rfl ⟨s5, A5, n5, c5, rfl, HYY.out.2.1.store HYY.out.1 (noInt_two' _ _ _ _) (Chg.at2 _ _ _ _), ?_⟩
                  exact Chg.owned HYY.out.2.2 (Chg.at2 _ _ _ _) (fun k e => by have := HW.out.2.2; omega)
                · obtain rfl : F = false := by rw [← HY.out.2.2.2]; simp [hf]
                  have hout := rg_out hf
                  obtain rfl : E = 4 := by rw [HX.out.2.2.2, hout.2]
                  obtain rfl : Z = 0 := by rw [HX.out.2.2.1, hout.1]
                  clear hout hf HX HR
                  go_wp2
                  refine bodyPost_ret (res_ct rfl _ rfl (aggN.load (HY.out.1.set2 _ _)) rfl) rfl ⟨false, none, 0, 0, rfl, RN.zero _, ?_⟩
                  exact Chg.owned HY.out.2.2.1 (Chg.at2 _ _ _ _) (fun k e => by have := HW.out.2.2; omega)
end Go.Proofs.YtgofjkppeobjfaaGreatDoor
