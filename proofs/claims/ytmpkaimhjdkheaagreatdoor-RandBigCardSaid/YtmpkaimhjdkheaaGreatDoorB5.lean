/- The parts RefH, WideP, WideQ, TextB, TextC, TextD, TextE, RefI, RefJ, RefU, Pick01, TextF, RandMix of the proof, in one text. -/
import Derived.Deep.RegionHeld3
import Derived.Deep.RegionWith
import Derived.IntWalk
import Derived.Deep.CutRange
import Derived.Test.YtmpkaimhjdkheaaGreatDoorB4
set_option linter.unusedSimpArgs false
set_option linter.unusedVariables false

namespace Go.Proofs.YtmpkaimhjdkheaaGreatDoor
set_option linter.unusedVariables false
open Go.RowKit Go.Mem Go.Dig

/-- Quotient and rest by the amounts. -/
theorem ediv_pos' (s t : Bool) (X Y : Nat) (hY : 1 ≤ Y) (h : s = false ∨ X % Y = 0) : sg s X / sg t Y = sg (s != t) (X / Y : Nat) ∧ sg s X % sg t Y = ((X % Y : Nat) : Int) := by
  have hd := Nat.div_add_mod X Y
  have key : ∀ t : Bool, sg s X / (Y : Int) = sg s (X / Y : Nat) ∧ sg s X % (Y : Int) = ((X % Y : Nat) : Int) := by
    intro _
    rw [Int.ediv_emod_unique (by omega)]
    have hm := Nat.mod_lt X (show 0 < Y by omega)
    refine ⟨?_, by omega, by omega⟩
    rcases h with rfl | h
    · simp only [sg]
      have e : ((Y * (X / Y) + X % Y : Nat) : Int) = (X : Int) := by rw [hd]
      simp at e ⊢
      omega
    · rw [h] at hd ⊢
      have e : ((Y * (X / Y) + 0 : Nat) : Int) = (X : Int) := by rw [hd]
      cases s
      · simp [sg] at e ⊢; omega
      · simp [sg, Int.mul_neg] at e ⊢; omega
  obtain ⟨k1, k2⟩ := key true
  cases t
  · show sg s X / (Y : Int) = sg (s != false) (X / Y : Nat) ∧ sg s X % (Y : Int) = _
    rw [k1, k2]
    cases s <;> simp
  · show sg s X / (-(Y : Int)) = sg (s != true) (X / Y : Nat) ∧ sg s X % (-(Y : Int)) = _
    rw [Int.ediv_neg, Int.emod_neg, k1, k2]
    cases s <;> simp [sg]
theorem ediv_neg' (t : Bool) (X Y : Nat) (hY : 1 ≤ Y) (h : X % Y ≠ 0) : sg true X / sg t Y = sg (true != t) (X / Y + 1 : Nat) ∧ sg true X % sg t Y = ((Y - X % Y : Nat) : Int) := by
  have hd := Nat.div_add_mod X Y
  have hm := Nat.mod_lt X (show 0 < Y by omega)
  have key : sg true X / (Y : Int) = -((X / Y + 1 : Nat) : Int) ∧ sg true X % (Y : Int) = ((Y - X % Y : Nat) : Int) := by
    rw [Int.ediv_emod_unique (by omega)]
    refine ⟨?_, by omega, by omega⟩
    have e : ((Y * (X / Y) + X % Y : Nat) : Int) = (X : Int) := by rw [hd]
    simp only [sg]
    rw [Int.mul_neg, show ((Y : Int) * ((X / Y + 1 : Nat) : Int)) = (Y : Int) * (X / Y : Nat) + Y by rw [Int.natCast_add, Int.mul_add]; simp]
    rw [Int.natCast_add, Int.natCast_mul] at e
    simp only [if_true]
    omega
  obtain ⟨k1, k2⟩ := key
  cases t
  · show sg true X / (Y : Int) = sg (true != false) (X / Y + 1 : Nat) ∧ sg true X % (Y : Int) = _
    rw [k1, k2]
    simp [sg]
  · show sg true X / (-(Y : Int)) = sg (true != true) (X / Y + 1 : Nat) ∧ sg true X % (-(Y : Int)) = _
    rw [Int.ediv_neg, Int.emod_neg, k1, k2]
    simp [sg]

theorem one_lt_pow2 (k : Nat) (h : 0 < k) : 1 < 2 ^ k := Nat.one_lt_two_pow (by omega)
theorem sg_lt {s : Bool} {m k : Nat} (h : m < 2 ^ k) : (sg s m).natAbs < 2 ^ k := by rw [sg_abs]; exact h
theorem res_cc {P : Program} {fn : Func} {p q : Tmp} {ty ty2 : TypeId} {w : World} {g g2 : Nat} (h : fn.results = #[.cell p ty, .cell q ty2]) (tmps : Array Value) (hp : tmps.getD p undef = .pointer (some ⟨g, 0, none⟩)) {v v2 : Value} (hl : (loadVar ty ⟨g, 0, none⟩).run P w = .ok v w)
    (hq : tmps.getD q undef = .pointer (some ⟨g2, 0, none⟩)) (hl2 : (loadVar ty2 ⟨g2, 0, none⟩).run P w = .ok v2 w) : (results fn tmps).run P w = .ok (.tuple #[v, v2]) w := by
  have hp' : tmps[p]?.getD undef = .pointer (some ⟨g, 0, none⟩) := by simpa using hp
  have hq' : tmps[q]?.getD undef = .pointer (some ⟨g2, 0, none⟩) := by simpa using hq
  simp [results, h, hp', hq', asAddr, hl, hl2]
/-- Two structs are stored, one behind the other. -/
def set22 (W : World) (g g' : Nat) (p q r u : Value) : World := (((W.setCell ⟨g, 0, none⟩ p).setCell ⟨g, 1, none⟩ q).setCell ⟨g', 0, none⟩ r).setCell ⟨g', 1, none⟩ u
theorem blk22 {W : World} {g g' : Nat} {t t' : TypeId} {a b c d : Value} (h : Blk W g t #[a, b]) (h' : Blk W g' t' #[c, d]) (hne : g ≠ g') (p q r u : Value) : Blk (set22 W g g' p q r u) g t #[p, q] ∧ Blk (set22 W g g' p q r u) g' t' #[r, u] :=
  ⟨((h.set2 p q).far (p := ⟨g', 0, none⟩) hne r).far (p := ⟨g', 1, none⟩) hne u, ((h'.far (p := ⟨g, 0, none⟩) (fun e => hne e.symm) p).far (p := ⟨g, 1, none⟩) (fun e => hne e.symm) q).set2 r u⟩
theorem chg22 (W : World) (g g' : Nat) (p q r u : Value) : Chg (fun k => k = g ∨ k = g') W (set22 W g g' p q r u) :=
  ((((Chg.refl _ W).setCell (p := ⟨g, 0, none⟩) (fun _ => .inl rfl) p).setCell (p := ⟨g, 1, none⟩) (fun _ => .inl rfl) q).setCell (p := ⟨g', 0, none⟩) (fun _ => .inr rfl) r).setCell (p := ⟨g', 1, none⟩) (fun _ => .inr rfl) u
theorem DM.store22 {W : World} {A : Option Addr} {n k m g g' : Nat} {t t' : TypeId} {a b c d : Value} (hm : DM W A n k m) (h : Blk W g t #[a, b]) (h' : Blk W g' t' #[c, d]) (hne : g ≠ g') (hi : NoInt [a, b]) (hi' : NoInt [c, d]) (p q r u : Value) : DM (set22 W g g' p q r u) A n k m :=
  (hm.store h hi (Chg.at2 W g p q)).store ((h'.far (p := ⟨g, 0, none⟩) (fun e => hne e.symm) p).far (p := ⟨g, 1, none⟩) (fun e => hne e.symm) q) hi' (Chg.at2 _ g' r u)

set_option maxRecDepth 100000 in
set_option maxHeartbeats 4000000 in
theorem rdiv_dm (s s' : Bool) (A : Option Addr) (n c : Nat) (A' : Option Addr) (n' c' : Nat) (x y : Nat) (w : World) (hx : DM w A n c x) (hy : DM w A' n' c' y) (hn : n ≤ 1000000) (hn' : n' ≤ 900000) (hy1 : 1 ≤ y) (bx : x < 2 ^ 1000000) :
    Calls Tryz.prog 63 #[.agg #[.bool s, .slice A n c], .agg #[.bool s', .slice A' n' c']] w fun e w' => ∃ v v', e = .returned (.tuple #[v, v']) ∧ RN w' v (sg s x / sg s' y) ∧ RN w' v' (sg s x % sg s' y) ∧ New w w' := by
  obtain ⟨ZQ, hZQ⟩ : ∃ Z, sg s x / sg s' y = Z := ⟨_, rfl⟩
  obtain ⟨ZR, hZR⟩ : ∃ Z, sg s x % sg s' y = Z := ⟨_, rfl⟩
  rw [hZQ, hZR]
  have HZ := Lib.hid (And.intro hZQ hZR)
  have H0 := Lib.hid (And.intro hx (And.intro hy bx))
  clear hx hy bx hZQ hZR
  go_enter Tryz.func63, Tryz.ntmps63
  go_wp2_with fail
  refine Calls.new4 ?_
  intro W hb1 hb2 hb3 hb4 hnW hzW
  refine (divided_any A n c A' n' c' x y W (H0.out.1.new hnW) (H0.out.2.1.new hnW) hn hn' hy1).mono ?_
  rintro e w1 ⟨Q, kq, dq, R, mr, dr, rfl, ⟨lq, hoq, hdq, hvq⟩, hdr, hn1⟩
  have hc1 := hb1.chg hn1 (fun h => h)
  have hc2 := hb2.chg hn1 (fun h => h)
  have ha0 := hc1.cell 0 (u := .bool s) rfl
  have hb0 := hc2.cell 0 (u := .bool s') rfl
  have H1 := Lib.hid (And.intro hc1 (And.intro hc2 (And.intro (hb3.chg hn1 (fun h => h)) (And.intro (hb4.chg hn1 (fun h => h)) (And.intro (hnW.new hn1) (And.intro hdr (And.intro hoq (And.intro hdq hvq))))))))
  clear hb1 hb2 hb3 hb4 hnW hzW hoq hdq hvq hdr hn1 hc1 hc2
  go_wp2_with fail
  obtain ⟨hc1, hc2, hc3, hc4, hnw, hdr, hoq, hdq, hvq⟩ := H1.out
  have hcapq := own_cap hoq
  refine (normal_rn (s != s') Q kq dq lq w1 (Rd.of_own hoq) hdq hcapq.1 hcapq.2).mono ?_
  rintro e w2 ⟨v2, rfl, ⟨s2, A2, n2, c2, rfl, hs2, hm2⟩, hn2⟩
  rw [hvq] at hs2 hm2
  have H2 := Lib.hid (And.intro (hc1.chg hn2 (fun h => h)) (And.intro (hc2.chg hn2 (fun h => h)) (And.intro (hc3.chg hn2 (fun h => h)) (And.intro (hc4.chg hn2 (fun h => h)) (And.intro (hnw.new hn2) (And.intro (hdr.new hn2) (And.intro hs2 hm2)))))))
  clear hc1 hc2 hc3 hc4 hnw hdr hoq hdq hvq hcapq hs2 hm2 hn2 H1 ha0 hb0
  go_wp2_with fail
  refine Calls.new1 ?_
  intro W3 hb5 hn3 hz3
  obtain ⟨hc1, hc2, hc3, hc4, hnw, hdr, hs2, hm2⟩ := H2.out
  obtain ⟨lr, hrr, hrc, hrm, hNr⟩ := hdr.new hn3
  refine (normal_dm R mr dr lr W3 hrr hNr.digs hrc hrm).mono ?_
  rintro e w4 ⟨T4, rfl, hdm4, _, hn4⟩
  rw [hNr.val] at hdm4
  have hd1 := (hc1.chg hn3 (fun h => h)).chg hn4 (fun h => h)
  have ha0 := hd1.cell 0 (u := .bool s) rfl
  have hd2 := (hc2.chg hn3 (fun h => h)).chg hn4 (fun h => h)
  have hd5 := hb5.chg hn4 (fun h => h)
  have hdb := hd1.lt
  have hdb2 : w.heap.size + 1 + 1 + 1 < w2.heap.size := hc4.lt
  have hdb3 : w2.heap.size < w4.heap.size := hd5.lt
  have hpos := hdm4.pos
  have H4 := Lib.hid (And.intro hd1 (And.intro hd2 (And.intro ((hc3.chg hn3 (fun h => h)).chg hn4 (fun h => h)) (And.intro ((hc4.chg hn3 (fun h => h)).chg hn4 (fun h => h)) (And.intro hd5 (And.intro (hnw.new (hn3.new hn4)) (And.intro hs2 (And.intro ((hm2.new hn3).new hn4) (And.intro hdm4 hpos)))))))))
  clear hb5 hn3 hz3 hc1 hc2 hc3 hc4 hnw hdr hs2 hm2 hrr hrc hrm hNr hdm4 hn4 hd1 hd2 hd5 hpos H2
  by_cases hcase : s = true ∧ 0 < T4
  · obtain ⟨rfl, hT⟩ := hcase
    have hval : sg true x / sg s' y = sg (true != s') (x / y + 1 : Nat) ∧ sg true x % sg s' y = ((y - x % y : Nat) : Int) := by
      refine ediv_neg' s' x y hy1 (fun h => ?_)
      have := H4.out.2.2.2.2.2.2.2.2.2.2 h
      omega
    rw [HZ.out.1, HZ.out.2] at hval
    have HV := Lib.hid hval
    clear hval HZ
    have hbn : (true != s') = !s' := by cases s' <;> rfl
    rw [hbn] at H4 HV
    clear hbn
    have hTi : (0 : Int) < (T4 : Int) := by omega
    have hb0 := H4.out.2.1.cell 0 (u := .bool s') rfl
    have hdb4 : w.heap.size + 1 < w4.heap.size := H4.out.2.1.lt
    go_wp2_with fail
    refine Calls.new2 ?_
    intro W5 hb6 hb7 hn5 hz5
    obtain ⟨hd1, hd2, hd3, hd4, hd5, hnw, hs2, hm2, hdm4, hpos⟩ := H4.out
    have hr7 : Rd W5 (some ⟨w4.heap.size + 1, 0, none⟩) 1 (nv .i64 [1]) := ⟨rfl, fun _ => ⟨_, rfl, fun j u hu => by rw [Addr.add_lit, Nat.zero_add]; exact hb7.cell j (by simpa [nv] using hu)⟩⟩
    refine (normal_rn (!s') _ 1 1 [1] W5 hr7 (Digs.cons (by omega) (Digs.nil _)) (by omega) (by omega)).mono ?_
    rintro e w6 ⟨v6, rfl, ⟨s6, A6, n6, c6, rfl, hs6, hm6⟩, hn6⟩
    rw [show val 10000 [1] = 1 from rfl] at hs6 hm6
    have hn56 := hn5.new hn6
    have e5 := hd5.chg hn56 (fun h => h)
    have k50 := e5.cell 0 (u := .bool s2) rfl
    have k51 := e5.cell 1 (u := .slice A2 n2 c2) rfl
    have f50 := e5.frozen 0
    have f51 := e5.frozen 1
    have hl5 : w2.heap.size < w6.heap.size := e5.lt
    have H6 := Lib.hid (And.intro (hd2.chg hn56 (fun h => h)) (And.intro (hd3.chg hn56 (fun h => h)) (And.intro (hd4.chg hn56 (fun h => h)) (And.intro e5 (And.intro (hb6.chg hn6 (fun h => h)) (And.intro (hnw.new hn56) (And.intro hs2 (And.intro (hm2.new hn56) (And.intro (hdm4.new hn56) (And.intro hs6 hm6))))))))))
    clear hb6 hb7 hn5 hz5 hd1 hd2 hd3 hd4 hd5 hnw hs2 hm2 hdm4 hpos hr7 hs6 hm6 hn6 hn56 e5 H4 ha0 hb0
    go_wp2_with fail
    refine Calls.new1 ?_
    intro W7 hb8 hn7 hz7
    obtain ⟨g2, g3, g4, g5, g6, hnw, hs2, hm2, hdm4, hs6, hm6⟩ := H6.out
    have hx1 : 1 ≤ x := by
      rcases Nat.eq_zero_or_pos x with h | h
      · have := hdm4.pos.2 (by rw [h]; simp)
        omega
      · exact h
    have hq0 : x / y < 2 ^ 1000000 := Nat.lt_of_le_of_lt (Nat.div_le_self _ _) H0.out.2.2
    refine (radd_any _ _ (sg (!s') (x / y : Nat)) (sg (!s') (1 : Nat)) W7 ⟨s2, A2, n2, c2, rfl, hs2, hm2.new hn7⟩ ⟨s6, A6, n6, c6, rfl, hs6, hm6.new hn7⟩ (sg_lt (k := 1000000) hq0) (sg_lt (k := 1000000) (Nat.lt_of_le_of_lt hx1 H0.out.2.2))).mono ?_
    rintro e w8 ⟨v8, rfl, ⟨s8, A8, n8, c8, rfl, hs8, hm8⟩, hn8⟩
    have hsum : sg (!s') (x / y : Nat) + sg (!s') (1 : Nat) = sg (!s') (x / y + 1 : Nat) := by
      unfold sg
      split <;> omega
    rw [hsum] at hs8 hm8
    have hn78 := hn7.new hn8
    have q2 := g2.chg hn78 (fun h => h)
    have q5 := g5.chg hn78 (fun h => h)
    have q6 := g6.chg hn78 (fun h => h)
    have k50 := q5.cell 0 (u := .bool s2) rfl
    have k51 := q5.cell 1 (u := .slice A2 n2 c2) rfl
    have f50 := q5.frozen 0
    have f51 := q5.frozen 1
    have k21 := q2.cell 1 (u := .slice A' n' c') rfl
    have k61 := q6.cell 1 (u := .slice R T4 dr) rfl
    have hne1 : w.heap.size + 1 ≠ w2.heap.size := by omega
    have hne2 : w4.heap.size ≠ w2.heap.size := by omega
    have hT7 : T4 ≤ 900000 := by
      obtain ⟨lr', h1, _, _, hN1⟩ := hdm4
      obtain ⟨lb, hb, _, _, hNb⟩ := H0.out.2.1
      have hlb : lb.length = n' := by have := hb.len; rwa [nv_length] at this
      have hlr : lr'.length = T4 := by have := h1.len; rwa [nv_length] at this
      rcases Nat.lt_or_ge n' T4 with h | h
      · have h5 := hNb.len_lt (by omega) hN1 (by omega)
        have := Nat.mod_lt x (show 0 < y by omega)
        omega
      · omega
    have H8 := Lib.hid (And.intro (g3.chg hn78 (fun h => h)) (And.intro (g4.chg hn78 (fun h => h)) (And.intro q5 (And.intro q6 (And.intro (hnw.new hn78) (And.intro hs8 (And.intro hm8 (And.intro (hdm4.new hn78) (H0.out.2.1.new (hnw.new hn78))))))))))
    clear hb8 hn7 hz7 g2 g3 g4 g5 g6 hnw hs2 hm2 hdm4 hs6 hm6 hq0 hs8 hm8 hn8 hn78 q2 q5 q6 hsum H6 hl5
    go_wp2_with fail
    obtain ⟨g3, g4, g5, g6, hnw, hs8, hm8, hdm4, hdy⟩ := H8.out
    have hcs : Chg (fun k => k = w2.heap.size) w8 ((w8.setCell ⟨w2.heap.size, 0, none⟩ (.bool s8)).setCell ⟨w2.heap.size, 1, none⟩ (.slice A8 n8 c8)) := Chg.at2 _ _ _ _
    have hm8' := hm8.store g5 (noInt_two' _ _ _ _) hcs
    have hdm4' := hdm4.store g5 (noInt_two' _ _ _ _) hcs
    have hdy' := hdy.store g5 (noInt_two' _ _ _ _) hcs
    have g5' := g5.set2 (.bool s8) (.slice A8 n8 c8)
    have g3' := g3.chg hcs (by omega)
    have g4' := g4.chg hcs (by omega)
    have g6' := g6.chg hcs (by omega)
    have hnw' : New w _ := Chg.owned hnw hcs (fun k e => by omega)
    generalize ((w8.setCell ⟨w2.heap.size, 0, none⟩ (.bool s8)).setCell ⟨w2.heap.size, 1, none⟩ (.slice A8 n8 c8)) = W9 at *
    refine (minus_any A' n' c' R T4 dr y (x % y) W9 hdy' hdm4' (Nat.le_of_lt (Nat.mod_lt _ (by omega))) (by omega)).mono ?_
    rintro e wa ⟨Ra, ma, da, rfl, ⟨lra, hoa, hda, hva⟩, hna⟩
    have Ha := Lib.hid (And.intro (g3'.chg hna (fun h => h)) (And.intro (g4'.chg hna (fun h => h)) (And.intro (g5'.chg hna (fun h => h)) (And.intro (g6'.chg hna (fun h => h)) (And.intro (hnw'.new hna) (And.intro hs8 (And.intro (hm8'.new hna) (And.intro hoa (And.intro hda hva)))))))))
    clear g3 g4 g5 g6 hnw hs8 hm8 hdm4 hdy hcs hm8' hdm4' hdy' g5' g3' g4' g6' hnw' hoa hda hva hna H8 k50 k51 f50 f51 k21 k61
    go_wp2_with fail
    obtain ⟨p3, p4, p5, p6, hnw, hs8, hm8, hoa, hda, hva⟩ := Ha.out
    have hcapa := own_cap hoa
    refine (normal_dm Ra ma da lra wa (Rd.of_own hoa) hda hcapa.1 hcapa.2).mono ?_
    rintro e wb ⟨Tb, rfl, hdmb, _, hnb⟩
    rw [hva] at hdmb
    have e3 := p3.chg hnb (fun h => h)
    have e4 := p4.chg hnb (fun h => h)
    have e5 := p5.chg hnb (fun h => h)
    have e6 := p6.chg hnb (fun h => h)
    have k30 := e3.cell 0 (u := .bool false) rfl
    have k31 := e3.cell 1 (u := .slice none 0 0) rfl
    have k40 := e4.cell 0 (u := .bool false) rfl
    have k41 := e4.cell 1 (u := .slice none 0 0) rfl
    have k50 := e5.cell 0 (u := .bool s8) rfl
    have k51 := e5.cell 1 (u := .slice A8 n8 c8) rfl
    have k60 := e6.cell 0 (u := .bool false) rfl
    have k61 := e6.cell 1 (u := .slice R T4 dr) rfl
    have f30 := e3.frozen 0
    have f31 := e3.frozen 1
    have f40 := e4.frozen 0
    have f41 := e4.frozen 1
    have f60 := e6.frozen 0
    have f61 := e6.frozen 1
    have Hb := Lib.hid (And.intro e3 (And.intro e4 (And.intro e5 (And.intro e6 (And.intro (hnw.new hnb) (And.intro hs8 (And.intro (hm8.new hnb) hdmb)))))))
    have hne1 : w.heap.size + 1 + 1 ≠ w2.heap.size := by omega
    have hne2' : w.heap.size + 1 + 1 + 1 ≠ w2.heap.size := by omega
    have hne3 : w.heap.size + 1 + 1 ≠ w4.heap.size := by omega
    have hne4 : w.heap.size + 1 + 1 + 1 ≠ w4.heap.size := by omega
    clear p3 p4 p5 p6 hnw hs8 hm8 hoa hda hva hcapa hdmb hnb e3 e4 e5 e6 Ha
    go_wp2_with fail
    have hc6 : Chg (fun k => k = w4.heap.size) wb ((wb.setCell ⟨w4.heap.size, 0, none⟩ (.bool false)).setCell ⟨w4.heap.size, 1, none⟩ (.slice Ra Tb da)) := Chg.at2 _ _ _ _
    obtain ⟨e3, e4, e5, e6, hnw, hs8, hm8, hdmb⟩ := Hb.out
    have r3 := e3.chg hc6 (by omega)
    have r4 := e4.chg hc6 (by omega)
    have r6 := e6.set2 (.bool false) (.slice Ra Tb da)
    have hm8' := hm8.store e6 (noInt_two' _ _ _ _) hc6
    have hdmb' := hdmb.store e6 (noInt_two' _ _ _ _) hc6
    have hnw' : New w _ := Chg.owned hnw hc6 (fun k e => by omega)
    have r5 := e5.chg hc6 (by omega)
    generalize ((wb.setCell ⟨w4.heap.size, 0, none⟩ (.bool false)).setCell ⟨w4.heap.size, 1, none⟩ (.slice Ra Tb da)) = Wz at *
    have k30 := r3.cell 0 (u := .bool false) rfl
    have k31 := r3.cell 1 (u := .slice none 0 0) rfl
    have k40 := r4.cell 0 (u := .bool false) rfl
    have k41 := r4.cell 1 (u := .slice none 0 0) rfl
    have k50 := r5.cell 0 (u := .bool s8) rfl
    have k51 := r5.cell 1 (u := .slice A8 n8 c8) rfl
    have k60 := r6.cell 0 (u := .bool false) rfl
    have k61 := r6.cell 1 (u := .slice Ra Tb da) rfl
    have f30 := r3.frozen 0
    have f31 := r3.frozen 1
    have f40 := r4.frozen 0
    have f41 := r4.frozen 1
    have HF := Lib.hid (And.intro r3 (And.intro r4 (And.intro hnw' (And.intro hs8 (And.intro hm8' hdmb')))))
    clear hc6 e3 e4 e5 e6 hnw hs8 hm8 hdmb r3 r4 r5 r6 hm8' hdmb' hnw' Hb f60 f61
    go_region
    all_goals
      go_wp2
      obtain ⟨e3, e4, hnw, hs8, hm8, hdmb⟩ := HF.out
      have hg : w.heap.size + 1 + 1 ≠ w.heap.size + 1 + 1 + 1 := by omega
      obtain ⟨r3, r4⟩ := blk22 e3 e4 hg (.bool s8) (.slice A8 n8 c8) (.bool false) (.slice Ra Tb da)
      refine bodyPost_ret (res_cc rfl _ rfl (aggN.load (Blk.drew r3)) rfl (aggN.load (Blk.drew r4))) rfl ⟨_, _, rfl, ⟨s8, A8, n8, c8, rfl, by rw [HV.out.1]; exact hs8, ?_⟩, ⟨false, Ra, Tb, da, rfl, by rw [HV.out.2]; exact (decide_eq_false (Int.not_lt.2 (Int.natCast_nonneg _))).symm, ?_⟩, ?_⟩
      · rw [HV.out.1]; exact (hm8.store22 e3 e4 hg (noInt_two' _ _ _ _) (noInt_two' _ _ _ _) _ _ _ _).new ((Chg.refl _ _).drew)
      · rw [HV.out.2, Int.natAbs_natCast]; exact (hdmb.store22 e3 e4 hg (noInt_two' _ _ _ _) (noInt_two' _ _ _ _) _ _ _ _).new ((Chg.refl _ _).drew)
      · exact Chg.owned hnw (chg22 Wz _ _ _ _ _ _).drew (fun k e => by omega)
  · have hval : sg s x / sg s' y = sg (s != s') (x / y : Nat) ∧ sg s x % sg s' y = ((x % y : Nat) : Int) := by
      refine ediv_pos' s s' x y hy1 ?_
      cases s
      · exact .inl rfl
      · right
        have : T4 = 0 := by
          rcases Nat.eq_zero_or_pos T4 with h | h
          · exact h
          · exact absurd ⟨rfl, h⟩ hcase
        exact H4.out.2.2.2.2.2.2.2.2.2.1 this
    rw [HZ.out.1, HZ.out.2] at hval
    have HV := Lib.hid hval
    clear hval HZ
    cases s
    · go_wp2_with fail
      refine Code.new1 ?_
      intro W5 hb6 hn5 hz5
      obtain ⟨hd1, hd2, hd3, hd4, hd5, hnw, hs2, hm2, hdm4, hpos⟩ := H4.out
      have e3 := hd3.chg hn5 (fun h => h)
      have e4 := hd4.chg hn5 (fun h => h)
      have e5 := hd5.chg hn5 (fun h => h)
      have k30 := e3.cell 0 (u := .bool false) rfl
      have k31 := e3.cell 1 (u := .slice none 0 0) rfl
      have k40 := e4.cell 0 (u := .bool false) rfl
      have k41 := e4.cell 1 (u := .slice none 0 0) rfl
      have k50 := e5.cell 0 (u := .bool s2) rfl
      have k51 := e5.cell 1 (u := .slice A2 n2 c2) rfl
      have k60 := hb6.cell 0 (u := .bool false) rfl
      have k61 := hb6.cell 1 (u := .slice R T4 dr) rfl
      have f30 := e3.frozen 0
      have f31 := e3.frozen 1
      have f40 := e4.frozen 0
      have f41 := e4.frozen 1
      have HF := Lib.hid (And.intro e3 (And.intro e4 (And.intro (hnw.new hn5) (And.intro hs2 (And.intro (hm2.new hn5) (And.intro (hdm4.new hn5) hpos))))))
      have hne1 : w.heap.size + 1 + 1 ≠ w2.heap.size := by omega
      have hne2 : w.heap.size + 1 + 1 + 1 ≠ w2.heap.size := by omega
      have hne3 : w.heap.size + 1 + 1 ≠ w4.heap.size := by omega
      have hne4 : w.heap.size + 1 + 1 + 1 ≠ w4.heap.size := by omega
      clear hd1 hd2 hd3 hd4 hd5 hnw hs2 hm2 hdm4 hpos hn5 hz5 hb6 e3 e4 e5 H4
      go_region
      all_goals
        go_wp2
        obtain ⟨e3, e4, hnw, hs2, hm2, hdm4, hpos⟩ := HF.out
        have hg : w.heap.size + 1 + 1 ≠ w.heap.size + 1 + 1 + 1 := by omega
        obtain ⟨r3, r4⟩ := blk22 e3 e4 hg (.bool s2) (.slice A2 n2 c2) (.bool false) (.slice R T4 dr)
        refine bodyPost_ret (res_cc rfl _ rfl (aggN.load (Blk.drew r3)) rfl (aggN.load (Blk.drew r4))) rfl ⟨_, _, rfl, ⟨s2, A2, n2, c2, rfl, by rw [HV.out.1]; exact hs2, ?_⟩, ⟨false, R, T4, dr, rfl, by rw [HV.out.2]; exact (decide_eq_false (Int.not_lt.2 (Int.natCast_nonneg _))).symm, ?_⟩, ?_⟩
        · rw [HV.out.1]; exact (hm2.store22 e3 e4 hg (noInt_two' _ _ _ _) (noInt_two' _ _ _ _) _ _ _ _).new ((Chg.refl _ _).drew)
        · rw [HV.out.2, Int.natAbs_natCast]; exact (hdm4.store22 e3 e4 hg (noInt_two' _ _ _ _) (noInt_two' _ _ _ _) _ _ _ _).new ((Chg.refl _ _).drew)
        · exact Chg.owned hnw (chg22 W5 _ _ _ _ _ _).drew (fun k e => by omega)
    · have hT0 : T4 = 0 := by
        rcases Nat.eq_zero_or_pos T4 with h | h
        · exact h
        · exact absurd ⟨rfl, h⟩ hcase
      subst hT0
      clear hcase
      go_wp2_with fail
      refine Code.new1 ?_
      intro W5 hb6 hn5 hz5
      obtain ⟨hd1, hd2, hd3, hd4, hd5, hnw, hs2, hm2, hdm4, hpos⟩ := H4.out
      have e3 := hd3.chg hn5 (fun h => h)
      have e4 := hd4.chg hn5 (fun h => h)
      have e5 := hd5.chg hn5 (fun h => h)
      have k30 := e3.cell 0 (u := .bool false) rfl
      have k31 := e3.cell 1 (u := .slice none 0 0) rfl
      have k40 := e4.cell 0 (u := .bool false) rfl
      have k41 := e4.cell 1 (u := .slice none 0 0) rfl
      have k50 := e5.cell 0 (u := .bool s2) rfl
      have k51 := e5.cell 1 (u := .slice A2 n2 c2) rfl
      have k60 := hb6.cell 0 (u := .bool false) rfl
      have k61 := hb6.cell 1 (u := .slice R 0 dr) rfl
      have f30 := e3.frozen 0
      have f31 := e3.frozen 1
      have f40 := e4.frozen 0
      have f41 := e4.frozen 1
      have HF := Lib.hid (And.intro e3 (And.intro e4 (And.intro (hnw.new hn5) (And.intro hs2 (And.intro (hm2.new hn5) (And.intro (hdm4.new hn5) hpos))))))
      have hne1 : w.heap.size + 1 + 1 ≠ w2.heap.size := by omega
      have hne2 : w.heap.size + 1 + 1 + 1 ≠ w2.heap.size := by omega
      have hne3 : w.heap.size + 1 + 1 ≠ w4.heap.size := by omega
      have hne4 : w.heap.size + 1 + 1 + 1 ≠ w4.heap.size := by omega
      clear hd1 hd2 hd3 hd4 hd5 hnw hs2 hm2 hdm4 hpos hn5 hz5 hb6 e3 e4 e5 H4
      go_region
      all_goals
        go_wp2
        obtain ⟨e3, e4, hnw, hs2, hm2, hdm4, hpos⟩ := HF.out
        have hg : w.heap.size + 1 + 1 ≠ w.heap.size + 1 + 1 + 1 := by omega
        obtain ⟨r3, r4⟩ := blk22 e3 e4 hg (.bool s2) (.slice A2 n2 c2) (.bool false) (.slice R 0 dr)
        refine bodyPost_ret (res_cc rfl _ rfl (aggN.load (Blk.drew r3)) rfl (aggN.load (Blk.drew r4))) rfl ⟨_, _, rfl, ⟨s2, A2, n2, c2, rfl, by rw [HV.out.1]; exact hs2, ?_⟩, ⟨false, R, 0, dr, rfl, by rw [HV.out.2]; exact (decide_eq_false (Int.not_lt.2 (Int.natCast_nonneg _))).symm, ?_⟩, ?_⟩
        · rw [HV.out.1]; exact (hm2.store22 e3 e4 hg (noInt_two' _ _ _ _) (noInt_two' _ _ _ _) _ _ _ _).new ((Chg.refl _ _).drew)
        · rw [HV.out.2, Int.natAbs_natCast]; exact (hdm4.store22 e3 e4 hg (noInt_two' _ _ _ _) (noInt_two' _ _ _ _) _ _ _ _).new ((Chg.refl _ _).drew)
        · exact Chg.owned hnw (chg22 W5 _ _ _ _ _ _).drew (fun k e => by omega)

theorem rdiv_any (v v' : Value) (x y : Int) (w : World) (hx : RN w v x) (hy : RN w v' y) (bx : x.natAbs < 2 ^ 1000000) (bY : y.natAbs < 2 ^ 900000) (hy0 : y ≠ 0) :
    Calls Tryz.prog 63 #[v, v'] w fun e w' => ∃ v v', e = .returned (.tuple #[v, v']) ∧ RN w' v (x / y) ∧ RN w' v' (x % y) ∧ New w w' := by
  obtain ⟨s, A, n, c, rfl, hs, hm⟩ := hx
  obtain ⟨s', A', n', c', rfl, hs', hm'⟩ := hy
  have h := rdiv_dm s s' A n c A' n' c' _ _ w hm hm' (bz_len hm bx) (bz_len hm' bY) (by omega) bx
  rw [hs, hs', sg_of, sg_of] at h
  rw [hs, hs']
  exact h
end Go.Proofs.YtmpkaimhjdkheaaGreatDoor

namespace Go.Proofs.YtmpkaimhjdkheaaGreatDoor
set_option linter.unusedVariables false
open Go.RowKit Go.Mem Go.Dig Go.Pure

theorem WI.store22 {W : World} {v : Value} {z : Int} {g g' : Nat} {t t' : TypeId} {a b c d : Value} (hm : WI W v z) (h : Blk W g t #[a, b]) (h' : Blk W g' t' #[c, d]) (hne : g ≠ g') (hi : NoInt [a, b]) (hi' : NoInt [c, d]) (p q r u : Value) : WI (set22 W g g' p q r u) v z := by
  have h1 : WI ((W.setCell ⟨g, 0, none⟩ p).setCell ⟨g, 1, none⟩ q) v z := hm.store h hi (Chg.at2 _ _ _ _)
  have h2 : Blk ((W.setCell ⟨g, 0, none⟩ p).setCell ⟨g, 1, none⟩ q) g' t' #[c, d] := (h'.far (p := ⟨g, 0, none⟩) (fun e => hne e.symm) _).far (p := ⟨g, 1, none⟩) (fun e => hne e.symm) _
  exact h1.store h2 hi' (Chg.at2 _ _ _ _)
theorem WM.len_mono {w w' : World} {A A' : Option Addr} {n c m n' c' m' : Nat} (h : WM w A n c m) (h' : WM w' A' n' c' m') (hm : m ≤ m') : n ≤ n' := by
  obtain ⟨l, h1, _, _, h2⟩ := h
  obtain ⟨l', h1', _, _, h2'⟩ := h'
  have e1 := h1.len
  have e2 := h1'.len
  rw [nv_length] at e1 e2
  rcases Nat.lt_or_ge n' n with hlt | hge
  · have := h2'.len_lt (by omega) h2 (by omega); omega
  · exact hge
theorem noInt2 (s : Bool) (A : Option Addr) (n c : Nat) : NoInt [Value.bool s, Value.slice A n c] := fun k z h => by simp at h

set_option maxRecDepth 100000 in
set_option maxHeartbeats 2000000 in
theorem wdiv_wm (s t : Bool) (A : Option Addr) (n c : Nat) (A' : Option Addr) (n' c' : Nat) (X Y : Nat) (w : World) (hx : WM w A n c X) (hy : WM w A' n' c' Y) (hn : n ≤ 900000) (hn' : n' ≤ 900000) (hY : 1 ≤ Y) :
    Calls Tryz.prog 29 #[.agg #[.bool s, .slice A n c], .agg #[.bool t, .slice A' n' c']] w fun e w' => ∃ s1 A1 n1 c1 s2 A2 n2 c2, e = .returned (.tuple #[.agg #[.bool s1, .slice A1 n1 c1], .agg #[.bool s2, .slice A2 n2 c2], .int .i64 0]) ∧ Hid (WI w' (.agg #[.bool s1, .slice A1 n1 c1]) (sg s X / sg t Y) ∧ WI w' (.agg #[.bool s2, .slice A2 n2 c2]) (sg s X % sg t Y) ∧ New w w') := by
  obtain ⟨ZQ, hZQ⟩ : ∃ Z, sg s X / sg t Y = Z := ⟨_, rfl⟩
  obtain ⟨ZR, hZR⟩ : ∃ Z, sg s X % sg t Y = Z := ⟨_, rfl⟩
  rw [hZQ, hZR]
  have hn0 : ¬ n' = 0 := fun h => by have := hy.pos.1 h; omega
  have hn0b : ((n' : Int) == 0) = false := by simp; omega
  have HZ := Lib.hid (And.intro hZQ hZR)
  have H0 := Lib.hid (And.intro hx hy)
  clear hx hy hZQ hZR
  go_enter Tryz.func29, Tryz.ntmps29
  go_wp2_with fail
  refine Calls.new4 ?_
  intro W hb1 hb2 hb3 hb4 hnW hzW
  refine (divMag_any A n c A' n' c' X Y W (H0.out.1.new hnW) (H0.out.2.new hnW) hn hY).mono ?_
  rintro e w1 ⟨Q, nq, cq, R, nr, cr, rfl, H1⟩
  obtain ⟨hwq, hwr, hn1⟩ := H1.out
  have hr0 := hwr.pos
  have hk1 := hb1.chg hn1 (fun h => h)
  have hk2 := hb2.chg hn1 (fun h => h)
  have hk3 := hb3.chg hn1 (fun h => h)
  have hk4 := hb4.chg hn1 (fun h => h)
  have ha0 := hk1.cell 0 (u := .bool s) rfl
  have hb0 := hk2.cell 0 (u := .bool t) rfl
  have hb1' := hk2.cell 1 (u := .slice A' n' c') rfl
  have HB := Lib.hid (And.intro hk1 (And.intro hk2 (And.intro hk3 (And.intro hk4 (hnW.new hn1)))))
  clear hb1 hb2 hb3 hb4 hnW hzW hn1 H1 hk1 hk2 hk3 hk4
  by_cases hcase : s = true ∧ X % Y ≠ 0
  · obtain ⟨hs, hrest⟩ := hcase
    subst hs
    have hnr : (0 : Int) < (nr : Int) := by
      rcases Nat.eq_zero_or_pos nr with h | h
      · exact absurd (hr0.1 h) hrest
      · omega
    have hnr' : 0 < nr := by omega
    have HWQ := Lib.hid (And.intro hwq hwr)
    have HRE := Lib.hid hrest
    clear hwq hwr hr0 hrest
    go_wp2_with fail
    refine Calls.new1 ?_
    intro W5 hb5 hn5 hz5
    have hone : WM W5 (some ⟨w1.heap.size, 0, none⟩) 1 1 1 := ⟨[1], ⟨rfl, fun _ => ⟨_, rfl, fun j u hu => by
      match j, hu with
      | 0, hu =>
        simp [nv] at hu
        subst hu
        rw [Addr.add_lit]
        exact hb5.cell 0 rfl⟩⟩, Nat.le_refl _, by omega, ⟨Digs.cons (by omega) (Digs.nil _), by simp [Trim], by simp [val_cons, val_nil]⟩⟩
    have hnq : nq ≤ 1000000 := Nat.le_trans (HWQ.out.1.len_mono H0.out.1 (Nat.div_le_self _ _)) (by omega)
    refine (addMag_any Q nq cq _ 1 1 (X / Y) 1 W5 (HWQ.out.1.new hn5) hone hnq (by omega)).mono ?_
    rintro e w2 ⟨Q2, nq2, cq2, rfl, H2⟩
    obtain ⟨hwq2, hn2⟩ := H2.out
    have hn12 := hn5.new hn2
    have hb1'' := hn12.cell hb1' (fun h => h)
    have ha0' := hn12.cell ha0 (fun h => h)
    have hb0' := hn12.cell hb0 (fun h => h)
    have HN2 := Lib.hid (And.intro hn12 hwq2)
    clear hb5 hn5 hz5 hone hnq H2 hwq2 hn2 hn12 ha0 hb0 hb1'
    go_wp2_with fail
    refine (subMag_any A' n' c' R nr cr Y (X % Y) w2 ((H0.out.2.new (HB.out.2.2.2.2)).new HN2.out.1) (HWQ.out.2.new HN2.out.1) (Nat.le_of_lt (Nat.mod_lt _ (by omega))) (by omega)).mono ?_
    rintro e w3 ⟨R2, nr2, cr2, rfl, H3⟩
    obtain ⟨hwr2, hn3⟩ := H3.out
    have ha3 := hn3.cell ha0' (fun h => h)
    have hb3 := hn3.cell hb0' (fun h => h)
    have HN3 := Lib.hid (And.intro (HN2.out.1.new hn3) (And.intro (HN2.out.2.new hn3) hwr2))
    clear H3 hwr2 hn3 ha0' hb0' hb1''
    go_wp2_with fail
    refine (made_h (!t) Q2 nq2 cq2 _ w3 HN3.out.2.1).mono ?_
    rintro e w4 ⟨s4, A4, n4, c4, rfl, HI4, HN4⟩
    clear ha3 hb3
    go_wp2_with fail
    refine (made_h false R2 nr2 cr2 _ w4 (HN3.out.2.2.new HN4.out)).mono ?_
    rintro e w5 ⟨s5, A5, n5, c5, rfl, HI5, HN5⟩
    have hn15 := (HN3.out.1.new HN4.out).new HN5.out
    have hk3 := HB.out.2.2.1.chg hn15 (fun h => h)
    have hk4 := HB.out.2.2.2.1.chg hn15 (fun h => h)
    have g30 := hk3.cell 0 rfl
    have g31 := hk3.cell 1 rfl
    have g40 := hk4.cell 0 rfl
    have g41 := hk4.cell 1 rfl
    have f30 := hk3.frozen 0
    have f31 := hk3.frozen 1
    have f40 := hk4.frozen 0
    have f41 := hk4.frozen 1
    have HK := Lib.hid (And.intro hk3 (And.intro hk4 hn15))
    clear hk3 hk4 hn15
    go_wp2
    obtain ⟨hk3, hk4, hn15⟩ := HK.out
    have hb22 := blk22 hk3 hk4 (by omega) (.bool s4) (.slice A4 n4 c4) (.bool s5) (.slice A5 n5 c5)
    obtain ⟨e1, e2⟩ := ediv_neg' t X Y hY HRE.out
    rw [e1] at HZ
    rw [e2] at HZ
    have i4 := HI4.out.new HN5.out
    have i5 := HI5.out
    rw [show sg (!t) (X / Y + 1) = sg (true != t) ((X / Y + 1 : Nat)) by cases t <;> rfl, HZ.out.1] at i4
    rw [show sg false (Y - X % Y) = ((Y - X % Y : Nat) : Int) by rfl, HZ.out.2] at i5
    refine bodyPost_ret (res_cct rfl _ rfl (aggInt.load hb22.1) rfl (aggInt.load hb22.2) rfl) rfl ⟨s4, A4, n4, c4, s5, A5, n5, c5, rfl, i4.store22 hk3 hk4 (by omega) (noInt2 _ _ _ _) (noInt2 _ _ _ _) _ _ _ _, i5.store22 hk3 hk4 (by omega) (noInt2 _ _ _ _) (noInt2 _ _ _ _) _ _ _ _, ?_⟩
    exact Chg.owned (HB.out.2.2.2.2.new hn15) (chg22 _ _ _ _ _ _ _) (fun k e => by omega)
  · have hor : s = false ∨ X % Y = 0 := by
      cases s
      · exact .inl rfl
      · right
        rcases Nat.eq_zero_or_pos (X % Y) with h | h
        · exact h
        · exact absurd ⟨rfl, by omega⟩ hcase
    obtain ⟨e1, e2⟩ := ediv_pos' s t X Y hY hor
    rw [e1, e2] at HZ
    have HWQ := Lib.hid (And.intro hwq hwr)
    have hsplit : s = false ∨ (s = true ∧ nr = 0) := by
      cases s
      · exact .inl rfl
      · exact .inr ⟨rfl, hr0.2 (hor.resolve_left (by simp))⟩
    clear hwq hwr hr0 hcase hor e1 e2 hb1'
    rcases hsplit with hs | ⟨hs, hnr⟩
    · subst hs
      go_wp2_with fail
      refine (made_h t Q nq cq _ w1 HWQ.out.1).mono ?_
      rintro e w4 ⟨s4, A4, n4, c4, rfl, HI4, HN4⟩
      clear ha0 hb0
      go_wp2_with fail
      refine (made_h false R nr cr _ w4 (HWQ.out.2.new HN4.out)).mono ?_
      rintro e w5 ⟨s5, A5, n5, c5, rfl, HI5, HN5⟩
      have hn15 := HN4.out.new HN5.out
      have hk3 := HB.out.2.2.1.chg hn15 (fun h => h)
      have hk4 := HB.out.2.2.2.1.chg hn15 (fun h => h)
      have g30 := hk3.cell 0 rfl
      have g31 := hk3.cell 1 rfl
      have g40 := hk4.cell 0 rfl
      have g41 := hk4.cell 1 rfl
      have f30 := hk3.frozen 0
      have f31 := hk3.frozen 1
      have f40 := hk4.frozen 0
      have f41 := hk4.frozen 1
      have HK := Lib.hid (And.intro hk3 (And.intro hk4 hn15))
      clear hk3 hk4 hn15
      go_wp2
      obtain ⟨hk3, hk4, hn15⟩ := HK.out
      have hb22 := blk22 hk3 hk4 (by omega) (.bool s4) (.slice A4 n4 c4) (.bool s5) (.slice A5 n5 c5)
      have i4 := HI4.out.new HN5.out
      have i5 := HI5.out
      rw [show sg t (X / Y) = sg (false != t) ((X / Y : Nat)) by cases t <;> rfl, HZ.out.1] at i4
      rw [show sg false (X % Y) = ((X % Y : Nat) : Int) by rfl, HZ.out.2] at i5
      refine bodyPost_ret (res_cct rfl _ rfl (aggInt.load hb22.1) rfl (aggInt.load hb22.2) rfl) rfl ⟨s4, A4, n4, c4, s5, A5, n5, c5, rfl, i4.store22 hk3 hk4 (by omega) (noInt2 _ _ _ _) (noInt2 _ _ _ _) _ _ _ _, i5.store22 hk3 hk4 (by omega) (noInt2 _ _ _ _) (noInt2 _ _ _ _) _ _ _ _, ?_⟩
      exact Chg.owned (HB.out.2.2.2.2.new hn15) (chg22 _ _ _ _ _ _ _) (fun k e => by omega)
    · subst hs
      subst hnr
      go_wp2_with fail
      refine (made_h (!t) Q nq cq _ w1 HWQ.out.1).mono ?_
      rintro e w4 ⟨s4, A4, n4, c4, rfl, HI4, HN4⟩
      clear ha0 hb0
      go_wp2_with fail
      refine (made_h false R 0 cr _ w4 (HWQ.out.2.new HN4.out)).mono ?_
      rintro e w5 ⟨s5, A5, n5, c5, rfl, HI5, HN5⟩
      have hn15 := HN4.out.new HN5.out
      have hk3 := HB.out.2.2.1.chg hn15 (fun h => h)
      have hk4 := HB.out.2.2.2.1.chg hn15 (fun h => h)
      have g30 := hk3.cell 0 rfl
      have g31 := hk3.cell 1 rfl
      have g40 := hk4.cell 0 rfl
      have g41 := hk4.cell 1 rfl
      have f30 := hk3.frozen 0
      have f31 := hk3.frozen 1
      have f40 := hk4.frozen 0
      have f41 := hk4.frozen 1
      have HK := Lib.hid (And.intro hk3 (And.intro hk4 hn15))
      clear hk3 hk4 hn15
      go_wp2
      obtain ⟨hk3, hk4, hn15⟩ := HK.out
      have hb22 := blk22 hk3 hk4 (by omega) (.bool s4) (.slice A4 n4 c4) (.bool s5) (.slice A5 n5 c5)
      have i4 := HI4.out.new HN5.out
      have i5 := HI5.out
      rw [show sg (!t) (X / Y) = sg (true != t) ((X / Y : Nat)) by cases t <;> rfl, HZ.out.1] at i4
      rw [show sg false (X % Y) = ((X % Y : Nat) : Int) by rfl, HZ.out.2] at i5
      refine bodyPost_ret (res_cct rfl _ rfl (aggInt.load hb22.1) rfl (aggInt.load hb22.2) rfl) rfl ⟨s4, A4, n4, c4, s5, A5, n5, c5, rfl, i4.store22 hk3 hk4 (by omega) (noInt2 _ _ _ _) (noInt2 _ _ _ _) _ _ _ _, i5.store22 hk3 hk4 (by omega) (noInt2 _ _ _ _) (noInt2 _ _ _ _) _ _ _ _, ?_⟩
      exact Chg.owned (HB.out.2.2.2.2.new hn15) (chg22 _ _ _ _ _ _ _) (fun k e => by omega)
end Go.Proofs.YtmpkaimhjdkheaaGreatDoor

namespace Go.Proofs.YtmpkaimhjdkheaaGreatDoor
set_option linter.unusedVariables false
open Go.RowKit Go.Mem Go.Dig Go.Pure

theorem wdiv_any (v v' : Value) (x y : Int) (w : World) (hx : WI w v x) (hy : WI w v' y) (bx : x.natAbs < 2 ^ 900000) (bY : y.natAbs < 2 ^ 900000) (hy0 : y ≠ 0) :
    Calls Tryz.prog 29 #[v, v'] w fun e w' => ∃ s1 A1 n1 c1 s2 A2 n2 c2, e = .returned (.tuple #[.agg #[.bool s1, .slice A1 n1 c1], .agg #[.bool s2, .slice A2 n2 c2], .int .i64 0]) ∧ Hid (WI w' (.agg #[.bool s1, .slice A1 n1 c1]) (x / y) ∧ WI w' (.agg #[.bool s2, .slice A2 n2 c2]) (x % y) ∧ New w w') := by
  obtain ⟨s, A, n, c, rfl, hs, hm⟩ := hx
  obtain ⟨t, A', n', c', rfl, ht, hm'⟩ := hy
  have h := wdiv_wm s t A n c A' n' c' x.natAbs y.natAbs w hm hm' (bz_wlen hm bx) (bz_wlen hm' bY) (by omega)
  rw [hs, ht, sg_of, sg_of] at h
  rw [hs, ht]
  exact h

set_option maxRecDepth 100000 in
set_option maxHeartbeats 1000000 in
theorem wdiv_zero (v v' : Value) (x : Int) (w : World) (hx : WI w v x) (hy : WI w v' 0) :
    Calls Tryz.prog 29 #[v, v'] w fun e w' => e = .returned (.tuple #[.agg #[.bool false, .slice none 0 0], .agg #[.bool false, .slice none 0 0], .int .i64 1]) ∧ New w w' := by
  obtain ⟨s, A, n, c, rfl, hs, hm⟩ := hx
  obtain ⟨t, A', n', c', rfl, ht, hm'⟩ := hy
  obtain rfl : n' = 0 := hm'.pos.2 rfl
  clear hs hm ht hm'
  go_enter Tryz.func29, Tryz.ntmps29
  go_wp2_with fail
  have hb4 : ∀ W : World, Blk W 0 0 #[] → True := fun _ _ => trivial
  clear hb4
  obtain ⟨W, hW⟩ : ∃ W, (((w.alloc (.cells #[.bool s, .slice A n c] 35)).alloc (.cells #[.bool t, .slice A' 0 c'] 35)).alloc (.cells #[.bool false, .slice none 0 0] 35)).alloc (.cells #[.bool false, .slice none 0 0] 35) = W := ⟨_, rfl⟩
  have hb3 : Blk W (w.heap.size + 1 + 1) 35 #[.bool false, .slice none 0 0] := by
    rw [← hW]
    have := Blk.new ((w.alloc (.cells #[.bool s, .slice A n c] 35)).alloc (.cells #[.bool t, .slice A' 0 c'] 35)) 35 #[.bool false, .slice none 0 0]
    rw [World.size_alloc, World.size_alloc] at this
    exact this.alloc _
  have hb4 : Blk W (w.heap.size + 1 + 1 + 1) 35 #[.bool false, .slice none 0 0] := by
    rw [← hW]
    have := Blk.new (((w.alloc (.cells #[.bool s, .slice A n c] 35)).alloc (.cells #[.bool t, .slice A' 0 c'] 35)).alloc (.cells #[.bool false, .slice none 0 0] 35)) 35 #[.bool false, .slice none 0 0]
    rw [World.size_alloc, World.size_alloc, World.size_alloc] at this
    exact this
  have hnW : New w W := by rw [← hW]; exact ((((Chg.refl _ w).alloc _).alloc _).alloc _).alloc _
  simp only [hW]
  exact bodyPost_ret (res_cct rfl _ rfl (aggInt.load hb3) rfl (aggInt.load hb4) rfl) rfl ⟨rfl, hnW⟩

theorem or0 (d : Nat) (h : d < 4294967296) : bits .or .u64 0 (d : Int) = (d : Int) := by
  have := shl_or32 0 d (by omega) h
  simpa using this
theorem orhi (a d : Nat) (ha : a < 4294967296) (h : d < 4294967296) : bits .or .u64 (a : Int) ((d : Int) * 4294967296) = ((a + d * 4294967296 : Nat) : Int) := by
  have e1 : ((d : Int) * 4294967296) = ((d * 4294967296 : Nat) : Int) := by simp
  have h1 := shl_or32 d a h ha
  rw [e1] at h1 ⊢
  rw [u64_or_nat _ _ (by omega) (by omega), Nat.or_comm, ← u64_or_nat _ _ (by omega) (by omega), h1]
  omega
/-- An int holds it. -/
def isInt (x : Int) : Bool := decide (-9223372036854775808 ≤ x ∧ x ≤ 9223372036854775807)
def intIf (x : Int) : Int := if isInt x then x else 0

end Go.Proofs.YtmpkaimhjdkheaaGreatDoor

namespace Go.Proofs.YtmpkaimhjdkheaaGreatDoor
set_option linter.unusedVariables false
open Go.RowKit Go.Mem Go.Dig
open Go.Lib (decDigits)

theorem str_at {b : ByteArray} {l : List UInt8} (h : b = St l) {k : Nat} (hk : k < b.size) : l[k]? = some b[k] := by
  subst h
  rw [St_size] at hk
  rw [List.getElem?_eq_getElem hk]
  rfl

set_option maxHeartbeats 1000000 in
theorem digits_wide (b : ByteArray) (l : List UInt8) (hb : b = St l) (hn : b.size ≤ 5000) (r : Bool) (hr : r = true ↔ Txt.Formed l) (w : World) :
    Calls Tryz.prog 22 #[.string b] w fun e w' => e = .returned (.bool r) ∧ w = w' := by
  have hl : l.length = b.size := by rw [hb, St_size]
  have H0 := Lib.hid (And.intro hb (And.intro hl hr))
  clear hb hl hr
  go_enter Tryz.func22, Tryz.ntmps22
  go_wp2
  go_loop [3] (fun i => ∃ k : Nat, i = .int .i64 (k : Int) ∧ k ≤ b.size ∧ Hid (Txt.AllDig (l.take k))) (fun i => b.size - (intOf i).toNat)
  case atStart => exact ⟨0, rfl, by omega, by show Txt.AllDig _; rw [List.take_zero]; exact Txt.AllDig.nil⟩
  case round =>
    obtain ⟨k, rfl, hk, HA⟩ := hrel
    by_cases hlt : k < b.size
    · obtain ⟨hb, hl, hr⟩ := H0.out
      have hc := str_at hb hlt
      obtain ⟨c, hcc⟩ : ∃ c, b[k] = c := ⟨_, rfl⟩
      rw [hcc] at hc
      by_cases hd : Txt.isDig c
      · have hd' := hd
        unfold Txt.isDig at hd
        have h1 : decide ((c.toNat : Int) < 48) = false := by simp; omega
        have h2 : decide (57 < (c.toNat : Int)) = false := by simp; omega
        have HN : Hid (Txt.AllDig (l.take (k + 1))) := by
          show Txt.AllDig _
          rw [List.take_add_one, hc]
          refine HA.out.append (fun x hx => ?_)
          rw [show (some c).toList = [c] by rfl, List.mem_singleton] at hx
          subst hx
          exact hd'
        clear hb hl hr hc hd hd' HA
        go_wp2
        go_round
        case rel => exact ⟨k + 1, by go_num, by omega, HN⟩
        case measure => simp [intOf]; omega
      · have hrf : r = false := by
          cases r
          · rfl
          · exfalso
            exact hd ((hr.1 rfl).1 c (List.mem_of_getElem? hc))
        subst hrf
        unfold Txt.isDig at hd
        by_cases h1 : c.toNat < 48
        · have h1' : (c.toNat : Int) < 48 := by omega
          clear hb hl hr hc hd HA
          go_wp2
          go_ret
          exact ⟨rfl, rfl⟩
        · have h1' : decide ((c.toNat : Int) < 48) = false := by simp; omega
          have h2' : 57 < (c.toNat : Int) := by omega
          clear hb hl hr hc hd HA
          go_wp2
          go_ret
          exact ⟨rfl, rfl⟩
    · obtain rfl : b.size = k := by omega
      obtain ⟨hb, hl, hr⟩ := H0.out
      have hall : Txt.AllDig l := by have := HA.out; rwa [List.take_of_length_le (by omega)] at this
      have hge : decide (((b.size : Nat) : Int) < ((b.size : Nat) : Int)) = false := by simp
      cases l with
      | nil =>
        have hrf : r = false := by
          cases r
          · rfl
          · exact absurd rfl ((hr.1 rfl).ne)
        subst hrf
        have hbe : b = ⟨#[]⟩ := hb
        subst hbe
        clear hb hl hr hall HA hge
        go_wp2
        go_ret
        exact ⟨rfl, rfl⟩
      | cons c0 t =>
        have hpos : 0 < b.size := by rw [← hl]; simp
        have hc := str_at hb hpos
        simp at hc
        have htl : b.toList = c0 :: t := by rw [Lib.toList_data, hb]; simp [St]
        have hne : b.toList.isEmpty = false := by rw [htl]; rfl
        have hne2 : ¬ b.toList = [] := by rw [htl]; simp
        have hne3 : (!b.toList.isEmpty) = true := by rw [hne]; rfl
        by_cases h0 : c0 :: t = [48]
        · have hrt : r = true := hr.2 ⟨hall, .inl h0⟩
          subst hrt
          have hbe : b = ⟨#[48]⟩ := by rw [hb, h0]; rfl
          subst hbe
          clear hb hl hr hall HA hge hne hne2 hne3 htl hc hpos
          go_wp2
          go_ret
          exact ⟨rfl, rfl⟩
        · have hbe : (b.toList == [48]) = false := by rw [htl]; simpa using h0
          have hbe2 : ¬ b.toList = [48] := by rw [htl]; exact h0
          obtain ⟨c, hcc⟩ : ∃ c, b[0] = c := ⟨_, rfl⟩
          rw [hcc] at hc
          subst hc
          by_cases h48 : c0 = 48
          · have hrf : r = false := by
              cases r
              · rfl
              · exfalso
                rcases (hr.1 rfl).2 with h | ⟨a, t', h, ha⟩
                · exact h0 h
                · injection h with h1 h2
                  exact ha (h1 ▸ h48)
            subst hrf
            subst h48
            clear hb hl hr hall HA h0 htl
            go_wp2
            go_ret
            exact ⟨rfl, rfl⟩
          · have hrt : r = true := hr.2 ⟨hall, .inr ⟨c0, t, rfl, h48⟩⟩
            subst hrt
            have hcn : ((c0.toNat : Int) != 48) = true := by
              simp
              intro e
              apply h48
              exact UInt8.toNat_inj.1 (by simpa using (by omega : c0.toNat = 48))
            clear hb hl hr hall HA h0 htl
            go_wp2
            go_ret
            exact ⟨rfl, rfl⟩
end Go.Proofs.YtmpkaimhjdkheaaGreatDoor

namespace Go.Txt
set_option linter.unusedVariables false
theorem decFrom_val {l : List UInt8} (h : AllDig l) : ∀ a, Lib.decFrom a l = some (a * 10 ^ l.length + decVal l) := by
  induction l using snocRec with
  | nil => intro a; simp [Lib.decFrom, decVal_nil]
  | snoc l c ih =>
    intro a
    have hc := h.right c (by simp)
    have h1 := ih h.left a
    have h2 := Lib.decFrom_take (l ++ [c]) l.length a (a * 10 ^ l.length + decVal l) c (c.toNat - 48) (by rw [List.take_left' rfl]; exact h1) (by simp) (by unfold Lib.digitVal; unfold isDig at hc; rw [if_pos hc])
    rw [List.take_of_length_le (by simp)] at h2
    rw [h2, decVal_snoc, List.length_append, List.length_singleton, Nat.pow_succ]
    congr 1
    rw [Nat.add_mul, Nat.mul_assoc, Nat.add_assoc]
theorem atoi_val {l : List UInt8} (h : AllDig l) (hn : l ≠ []) : Lib.atoi l = some (decVal l : Int) := by
  cases l with
  | nil => exact absurd rfl hn
  | cons c t =>
    have hc := h c (by simp)
    unfold isDig at hc
    have h1 : (c == 45) = false := by simp; intro e; subst e; simp at hc
    have h2 : (c == 43) = false := by simp; intro e; subst e; simp at hc
    simp only [Lib.atoi, h1, h2, Bool.false_eq_true, if_false, Lib.decNat, List.isEmpty_cons]
    rw [decFrom_val h 0]
    simp
theorem hasPrefix45 (l : List UInt8) : Lib.hasPrefix l [45] = decide (l.head? = some 45) := by
  unfold Lib.hasPrefix
  cases l with
  | nil => simp [List.isPrefixOf]
  | cons a t =>
    simp only [List.isPrefixOf, Bool.and_true, List.head?_cons, Option.some.injEq]
    rw [Bool.eq_iff_iff, beq_iff_eq, decide_eq_true_iff]
    exact ⟨fun h => h.symm, fun h => h.symm⟩
theorem trimPrefix45 (l : List UInt8) : Lib.trimPrefix l [45] = body l := by
  unfold Lib.trimPrefix body
  rw [hasPrefix45]
  by_cases h : l.head? = some 45
  · simp [h]
  · simp [h]
end Go.Txt
namespace Go.Proofs.YtmpkaimhjdkheaaGreatDoor
set_option linter.unusedVariables false
open Go.RowKit Go.Mem Go.Dig
open Go.Lib (decDigits)

theorem St_dat (l : List UInt8) : (St l).data.toList = l := by simp [St]
theorem St_take (l : List UInt8) (k : Nat) : (St l).extract 0 k = St (l.take k) := by
  apply ByteArray.ext
  simp [St]
theorem St_drop (l : List UInt8) (k : Nat) : (St l).extract k (St l).size = St (l.drop k) := by
  apply ByteArray.ext
  simp [St, ByteArray.size]
  rw [List.take_of_length_le (by simp)]

theorem cut_any (b : ByteArray) (l : List UInt8) (hb : b = St l) (w : World) :
    Calls Tryz.prog 21 #[.string b, .string ⟨#[45]⟩] w fun e w' => e = .returned (.tuple #[.string (St (Txt.body l)), .bool (decide (l.head? = some 45))]) ∧ w = w' := by
  refine (Tryz.strings_CutPrefix b ⟨#[45]⟩ w).mono ?_
  rintro e w' ⟨rfl, rfl⟩
  subst hb
  rw [St_dat, show (⟨#[45]⟩ : ByteArray).data.toList = [45] by rfl, Txt.trimPrefix45, Txt.hasPrefix45]
  exact ⟨rfl, rfl⟩
theorem atoi_any (b : ByteArray) (l : List UInt8) (hb : b = St l) (h : Txt.AllDig l) (hn : l ≠ []) (h9 : l.length ≤ 9) (w : World) :
    Calls Tryz.prog 23 #[.string b] w fun e w' => e = .returned (.tuple #[.int .i64 (Txt.decVal l : Int), .nilIface]) ∧ New w w' := by
  subst hb
  refine (Tryz.strconv_Atoi (St l) (Txt.decVal l) (by rw [St_size]; omega) (by rw [St_dat]; exact Txt.atoi_val h hn) w).mono ?_
  rintro e w' ⟨rfl, t, rfl⟩
  exact ⟨rfl, conv_new _ _ _⟩

set_option maxHeartbeats 1000000 in
set_option maxRecDepth 100000 in
theorem wparse_long (b : ByteArray) (hn : 5000 < b.size) (w : World) :
    Calls Tryz.prog 11 #[.string b] w fun e w' => e = .returned (.tuple #[.agg #[.bool false, .slice none 0 0], .int .i64 4]) ∧ New w w' := by
  have h1 : (5000 : Int) < (b.size : Int) := by omega
  go_enter Tryz.func11, Tryz.ntmps11
  go_wp2
  exact bodyPost_ret (res_ct rfl _ rfl (aggInt.load (Blk.new _ _ _)) rfl) rfl ⟨rfl, (Chg.refl _ w).alloc _⟩

set_option maxHeartbeats 1000000 in
set_option maxRecDepth 100000 in
theorem wparse_bad (b : ByteArray) (l : List UInt8) (hb : b = St l) (hn : b.size ≤ 5000) (h : ∀ z, ¬ Txt.Reads l z) (w : World) :
    Calls Tryz.prog 11 #[.string b] w fun e w' => e = .returned (.tuple #[.agg #[.bool false, .slice none 0 0], .int .i64 2]) ∧ New w w' := by
  have h1 : decide ((5000 : Int) < (b.size : Int)) = false := by simp; omega
  have h1' : decide (5000 < b.size) = false := by simp; omega
  have hcut := cut_any b l hb
  obtain ⟨c, hc⟩ : ∃ c, St (Txt.body l) = c := ⟨_, rfl⟩
  have hcs : c.size ≤ 5000 := by rw [← hc, St_size]; have := Txt.Reads.body_len l; rw [hb, St_size] at hn; omega
  obtain ⟨g, hg⟩ : ∃ g, decide (l.head? = some 45) = g := ⟨_, rfl⟩
  rw [hc, hg] at hcut
  by_cases hf : Txt.Formed (Txt.body l)
  · have hdg := digits_wide c (Txt.body l) hc.symm hcs true ⟨fun _ => hf, fun _ => rfl⟩
    have hbad : l.head? = some 45 ∧ Txt.body l = [48] := by
      refine Classical.byContradiction (fun hx => h _ ⟨hf, hx, rfl⟩)
    obtain rfl : true = g := by rw [← hg]; simp [hbad.1]
    have hcc : c = ⟨#[48]⟩ := by rw [← hc, hbad.2]; rfl
    subst hcc
    have HC := Lib.hid (And.intro hcut hdg)
    clear hcut hdg hb h hc hg hf hbad hcs
    go_enter Tryz.func11, Tryz.ntmps11
    go_wp2_with fail
    refine (HC.out.1 _).mono ?_
    rintro e w1 ⟨rfl, rfl⟩
    go_wp2_with fail
    refine (HC.out.2 _).mono ?_
    rintro e w1 ⟨rfl, rfl⟩
    go_wp2
    exact bodyPost_ret (res_ct rfl _ rfl (aggInt.load (Blk.new _ _ _)) rfl) rfl ⟨rfl, (Chg.refl _ w).alloc _⟩
  · have hdg := digits_wide c (Txt.body l) hc.symm hcs false ⟨fun h => by simp at h, fun h => absurd h hf⟩
    have HC := Lib.hid (And.intro hcut hdg)
    clear hcut hdg hb h hc hg hf hcs
    go_enter Tryz.func11, Tryz.ntmps11
    go_wp2_with fail
    refine (HC.out.1 _).mono ?_
    rintro e w1 ⟨rfl, rfl⟩
    go_wp2_with fail
    refine (HC.out.2 _).mono ?_
    rintro e w1 ⟨rfl, rfl⟩
    go_wp2
    exact bodyPost_ret (res_ct rfl _ rfl (aggInt.load (Blk.new _ _ _)) rfl) rfl ⟨rfl, (Chg.refl _ w).alloc _⟩

theorem sg_reads {l : List UInt8} {z : Int} (h : Txt.Reads l z) : sg (decide (l.head? = some 45)) (Txt.decVal (Txt.body l)) = z := by
  rw [h.2.2]
  unfold sg
  by_cases hs : l.head? = some 45 <;> simp [hs]
theorem WD.lit1 {W : World} {g d : Nat} {t : TypeId} (hb : Blk W g t #[.int .u32 (d : Int)]) (hd : d < 4294967296) : WD W (some ⟨g, 0, none⟩) 1 1 d := by
  refine ⟨[d], ⟨rfl, fun _ => ⟨_, rfl, fun j u hu => ?_⟩⟩, Nat.le_refl _, by omega, ⟨Digs.cons hd (Digs.nil _), by simp [val_cons, val_nil]⟩⟩
  match j, hu with
  | 0, hu =>
    simp [nv] at hu
    subst hu
    rw [Addr.add_lit]
    exact hb.cell 0 rfl
theorem WM.lit1 {W : World} {g d : Nat} {t : TypeId} (hb : Blk W g t #[.int .u32 (d : Int)]) (hd : d < 4294967296) (h1 : 1 ≤ d) : WM W (some ⟨g, 0, none⟩) 1 1 d := by
  obtain ⟨l, h2, h3, h4, h5⟩ := WD.lit1 hb hd
  refine ⟨[d], ?_, h3, h4, ⟨Digs.cons hd (Digs.nil _), by simp [Trim]; omega, by simp [val_cons, val_nil]⟩⟩
  refine ⟨rfl, fun _ => ⟨_, rfl, fun j u hu => ?_⟩⟩
  match j, hu with
  | 0, hu =>
    simp [nv] at hu
    subst hu
    rw [Addr.add_lit]
    exact hb.cell 0 rfl
theorem val_bound {l : List UInt8} (h : Txt.AllDig l) {k : Nat} (hk : l.length ≤ k) : Txt.decVal l < 4294967296 ^ k :=
  Nat.lt_of_lt_of_le (Txt.decVal_lt h) (Nat.le_trans (Nat.pow_le_pow_left (by omega) _) (Nat.pow_le_pow_right (by omega) hk))
theorem chunk_len (m : Nat) (hm : 0 < m) : (m - 1) % 9 + 1 ≤ m ∧ (m - 1) % 9 + 1 ≤ 9 := by
  have := Nat.mod_le (m - 1) 9
  omega
theorem val_chunk (t : List UInt8) (k j : Nat) (hj : k + j ≤ t.length) (h9 : k = 0 ∨ j = 9) : Txt.decVal (t.take k) * 1000000000 + Txt.decVal ((t.drop k).take j) = Txt.decVal (t.take (k + j)) := by
  rw [List.take_add, Txt.decVal_append, List.length_take, Nat.min_eq_left (by simp; omega)]
  rcases h9 with h | h
  · subst h
    rw [List.take_zero, Txt.decVal_nil]
    omega
  · subst h; rfl

set_option maxHeartbeats 4000000 in
set_option maxRecDepth 100000 in
theorem wparse_ok (b : ByteArray) (l : List UInt8) (hb : b = St l) (hn : b.size ≤ 5000) (z : Int) (h : Txt.Reads l z) (w : World) :
    Calls Tryz.prog 11 #[.string b] w fun e w' => ∃ s A n c, e = .returned (.tuple #[.agg #[.bool s, .slice A n c], .int .i64 (rgE z)]) ∧ Hid (WI w' (.agg #[.bool s, .slice A n c]) (rg z) ∧ New w w') := by
  have h1 : decide ((5000 : Int) < (b.size : Int)) = false := by simp; omega
  have h1' : decide (5000 < b.size) = false := by simp; omega
  have hcut := cut_any b l hb
  obtain ⟨c, hc⟩ : ∃ c, St (Txt.body l) = c := ⟨_, rfl⟩
  have hbl := Txt.Reads.body_len l
  have hcs : c.size ≤ 5000 := by rw [← hc, St_size]; rw [hb, St_size] at hn; omega
  obtain ⟨g, hg⟩ : ∃ g, decide (l.head? = some 45) = g := ⟨_, rfl⟩
  rw [hc, hg] at hcut
  have hdg := digits_wide c (Txt.body l) hc.symm hcs true ⟨fun _ => h.1, fun _ => rfl⟩
  have hall := h.1.1
  have hsg := sg_reads h
  rw [hg] at hsg
  obtain ⟨t, ht⟩ : ∃ t, Txt.body l = t := ⟨_, rfl⟩
  rw [ht] at hc hall hsg
  have hneg : g = false ∨ (g = true ∧ (c.toList == [48]) = false) := by
    by_cases h45 : l.head? = some 45
    · right
      refine ⟨by rw [← hg]; simp [h45], ?_⟩
      have h2 := h.2.1
      have : t ≠ [48] := fun e => h2 ⟨h45, by rw [ht, e]⟩
      rw [Lib.toList_data, ← hc, St_dat]
      simpa using this
    · left; rw [← hg]; simp [h45]
  obtain ⟨E, hE⟩ : ∃ E, rgE z = E := ⟨_, rfl⟩
  rw [hE]
  have htl : t.length = c.size := by rw [← hc, St_size]
  have HC := Lib.hid (And.intro hcut hdg)
  have H0 := Lib.hid (And.intro hc (And.intro hall (And.intro hsg (And.intro hE htl))))
  clear hcut hdg hb h hc hg hbl hall hsg ht hE htl
  go_enter Tryz.func11, Tryz.ntmps11
  go_wp2_with fail
  refine Calls.new1 ?_
  intro W hbW hnW hzW
  refine (HC.out.1 W).mono ?_
  rintro e w1 ⟨rfl, rfl⟩
  go_wp2_with fail
  refine (HC.out.2 W).mono ?_
  rintro e w1 ⟨rfl, rfl⟩
  have HW := Lib.hid (And.intro hbW (And.intro hnW hzW))
  clear hbW hnW hzW HC
  have hneg2 : g = false ∨ (g = true ∧ (c.toList == [48]) = false ∧ ¬ c.toList = [48]) := by
    rcases hneg with h | ⟨h, h2⟩
    · exact .inl h
    · exact .inr ⟨h, h2, by simpa using h2⟩
  clear hneg
  have hran : ∀ R m d wo, WM wo R m d (Txt.decVal t) → Calls Tryz.prog 26 #[.bool g, .slice R m d] wo fun e w' => ∃ s' A' n' c', e = .returned (.tuple #[.agg #[.bool s', .slice A' n' c'], .int .i64 E]) ∧ Hid (WI w' (.agg #[.bool s', .slice A' n' c']) (rg z) ∧ New wo w') := fun R m d wo hwm => by
    have := ranged_wm g R m d _ wo hwm
    rw [H0.out.2.2.1, H0.out.2.2.2.1] at this
    exact this
  have HRAN := Lib.hid hran
  clear hran
  rcases hneg2 with h | ⟨h, h48, h48'⟩ <;> subst h
  all_goals
    go_wp2_with fail
    (try clear h48 h48')
    go_loopw [4, 6, 7, 8, 9] (fun s4 s6 _ _ _ wr => ∃ (k : Nat) (b' : ByteArray) (R : Option Addr) (m d : Nat), s4 = .string b' ∧ s6 = .slice R m d ∧ k + b'.size = c.size ∧ (k = 0 ∨ b'.size % 9 = 0) ∧ Hid (b' = St (t.drop k) ∧ WM wr R m d (Txt.decVal (t.take k)) ∧ New W wr)) (fun s4 _ _ _ _ _ => match s4 with | .string b => b.size | _ => 0)
    case atStart => exact ⟨0, c, none, 0, 0, rfl, rfl, by omega, .inl rfl, H0.out.1.symm, WM.zero _, Chg.refl _ _⟩
    case round =>
      obtain ⟨k, b', R, m, d, rfl, rfl, hkc, hk9, HI⟩ := hrel
      obtain ⟨wo, rfl⟩ : ∃ wo : World, wo = wr := ⟨_, rfl⟩
      obtain ⟨hc, hall, hsg, hE, htl⟩ := H0.out
      obtain ⟨hb', hwm, hnw⟩ := HI.out
      have hm : m ≤ 5000 := Nat.le_trans (hwm.len (val_bound (hall.take k) (k := c.size) (by simp; omega))) hcs
      by_cases h0 : b'.size = 0
      · have hpos : decide ((0 : Int) < ((b'.size : Nat) : Int)) = false := by rw [h0]; rfl
        have hpos' : decide (0 < b'.size) = false := by rw [h0]; rfl
        have hk : k = t.length := by omega
        rw [hk, List.take_length] at hwm
        have hran := HRAN.out R m d wo hwm
        have hbw := HW.out.1.chg hnw (fun h => h)
        have HR := Lib.hid (And.intro hran (And.intro hbw hnw))
        clear hc hall hsg hE htl hb' hwm hnw hk hran hbw HI h0
        go_wp2_with fail
        refine HR.out.1.mono ?_
        rintro e w5 ⟨s5, A5, n5, c5, rfl, H5⟩
        have hb5 := HR.out.2.1.chg H5.out.2 (fun h => h)
        have g0 := hb5.cell 0 rfl
        have g1 := hb5.cell 1 rfl
        have f0 := hb5.frozen 0
        have f1 := hb5.frozen 1
        have HB := Lib.hid hb5
        clear hb5
        go_wp2
        refine bodyPost_ret (res_ct rfl _ rfl (aggInt.load (HB.out.set2 _ _)) rfl) rfl ⟨s5, A5, n5, c5, rfl, H5.out.1.store HB.out (noInt_two _ _ _ _) (Chg.at2 _ _ _ _), ?_⟩
        exact Chg.owned ((HW.out.2.1.new HR.out.2.2).new H5.out.2) (Chg.at2 _ _ _ _) (fun k e => by omega)
      · have hpos : (0 : Int) < ((b'.size : Nat) : Int) := by omega
        have hpos' : 0 < b'.size := by omega
        obtain ⟨p, hp⟩ : ∃ p, b'.size - 1 = p := ⟨_, rfl⟩
        obtain ⟨q, hq⟩ : ∃ q, p % 9 = q := ⟨_, rfl⟩
        obtain ⟨j, hj⟩ : ∃ j, q + 1 = j := ⟨_, rfl⟩
        have hpi : ((b'.size : Nat) : Int) - 1 = (p : Int) := by omega
        have hqi : (p : Int) % 9 = (q : Int) := by omega
        have hji : (q : Int) + 1 = (j : Int) := by omega
        have hj9 : j ≤ 9 := by omega
        have hjb : j ≤ b'.size := by omega
        have hjk : k = 0 ∨ j = 9 := by omega
        have hrest : (b'.size - j) % 9 = 0 := by omega
        have hdl : (t.drop k).length = b'.size := by simp; omega
        obtain ⟨b1, hb1⟩ : ∃ x, St ((t.drop k).take j) = x := ⟨_, rfl⟩
        obtain ⟨b2, hb2⟩ : ∃ x, St ((t.drop k).drop j) = x := ⟨_, rfl⟩
        have hb2s : b2.size = b'.size - j := by rw [← hb2, St_size, List.length_drop, hdl]
        have hs1 : ∀ W, (Instr.slice 9 (.string b') none (some (.int .i64 (j : Int))) none).run Tryz.prog W = .ok (.string b1) W := fun W => by
          rw [run_slice_string_h W 9 b' Tryz.underlying9 .i64 (j : Int) (by omega) (by omega), Int.toNat_natCast, hb', St_take, hb1]
        have hs2 : ∀ W, (Instr.slice 9 (.string b') (some (.int .i64 (j : Int))) none none).run Tryz.prog W = .ok (.string b2) W := fun W => by
          rw [run_slice_string_l W 9 b' Tryz.underlying9 .i64 (j : Int) (by omega) (by omega), Int.toNat_natCast, hb', St_drop, hb2]
        have hat := atoi_any b1 ((t.drop k).take j) hb1.symm ((hall.drop k).take j) (by intro e; have := congrArg List.length e; simp at this; omega) (by simp; omega)
        have hPb := Txt.decVal_lt ((hall.drop k).take j)
        have hval := val_chunk t k j (by omega) hjk
        obtain ⟨P, hP⟩ : ∃ P, Txt.decVal ((t.drop k).take j) = P := ⟨_, rfl⟩
        obtain ⟨V, hV⟩ : ∃ V, Txt.decVal (t.take k) = V := ⟨_, rfl⟩
        rw [hP] at hat hPb hval
        rw [hV] at hwm hval
        have hPb2 : P < 1000000000 := by
          refine Nat.lt_of_lt_of_le hPb ?_
          refine Nat.le_trans (Nat.pow_le_pow_right (by omega) (show ((t.drop k).take j).length ≤ 9 by simp; omega)) (by decide)
        have HR := Lib.hid (And.intro hwm (And.intro hnw (And.intro hval (And.intro hat (show b2 = St (t.drop (k + j)) by rw [← hb2, List.drop_drop])))))
        have HRE := Lib.hid (And.intro hrest (And.intro hb2s (show j + b2.size = b'.size by omega)))
        clear hc hall hsg hE htl hb' hwm hnw HI h0 hp hq hj hjk hrest hdl hb1 hb2 hb2s hat hPb hval hP hV
        go_wp2_with fail
        refine (HR.out.2.2.2.1 wo).mono ?_
        rintro e w2 ⟨rfl, hn2⟩
        have HN2 := Lib.hid hn2
        clear hn2
        have hPi : (P : Int) % 4294967296 = (P : Int) := by omega
        go_wp2_with fail
        refine Calls.new1 ?_
        intro W3 hb3 hn3 hz3
        refine (mulMag_any R m d _ 1 1 V 1000000000 W3 ((HR.out.1.new HN2.out).new hn3) (WM.lit1 (d := 1000000000) hb3 (by omega) (by omega)) (by omega) (by omega)).mono ?_
        rintro e w4 ⟨R4, m4, d4, rfl, H4⟩
        have HN3 := Lib.hid hn3
        clear hb3 hn3 hz3
        have hm4 : m4 ≤ 5000 := by
          obtain ⟨hc, hall, hsg, hE, htl⟩ := H0.out
          have hb := val_bound (hall.take (k + j)) (k := c.size) (by simp; omega)
          rw [← HR.out.2.2.1] at hb
          exact Nat.le_trans (H4.out.1.len (k := c.size) (Nat.lt_of_le_of_lt (Nat.le_add_right _ _) hb)) hcs
        go_wp2_with fail
        refine Calls.new1 ?_
        intro W5 hb5 hn5 hz5
        refine (addMag_wd R4 m4 d4 _ 1 1 (V * 1000000000) P W5 (H4.out.1.new hn5).wd (WD.lit1 hb5 (by omega)) (by omega) (by omega)).mono ?_
        rintro e w6 ⟨R6, m6, d6, rfl, H6⟩
        have HN5 := Lib.hid hn5
        clear hb5 hn5 hz5
        go_wp2_with fail
        go_roundw
        case rel =>
          refine ⟨k + j, b2, R6, m6, d6, rfl, rfl, by have := HRE.out.2.2; omega, .inr (by rw [HRE.out.2.1]; exact HRE.out.1), HR.out.2.2.2.2, ?_, ?_⟩
          · have := H6.out.1
            rwa [HR.out.2.2.1] at this
          · exact ((((HR.out.2.1.new HN2.out).new HN3.out).new H4.out.2.2).new HN5.out).new H6.out.2
        case measure =>
          show b2.size < b'.size
          have := HRE.out.2.1
          omega
end Go.Proofs.YtmpkaimhjdkheaaGreatDoor

namespace Go.Proofs.YtmpkaimhjdkheaaGreatDoor
set_option linter.unusedVariables false
open Go.RowKit Go.Mem Go.Dig
open Go.Lib (decDigits)

/-- The library's table of powers of ten lies as its text lays it. -/
def PowTab (w : World) : Prop := Lib.TabIs Tryz.prog w "internal/strconv.uint64pow10" .u64 Lib.pow10Tab
theorem PowTab.chg {S : Nat → Prop} {w w' : World} (h : PowTab w) (hc : Chg S w w') (hs : ∀ g, Tryz.prog.globalNamed "internal/strconv.uint64pow10" = some g → ¬ S g) : PowTab w' := by
  unfold PowTab Lib.TabIs World.var? at h ⊢
  cases hg : Tryz.prog.globalNamed "internal/strconv.uint64pow10" with
  | none => rw [hg] at h; simp at h
  | some g =>
    rw [hg] at h
    simp only [Option.bind_some] at h ⊢
    cases ho : w.heap[g]? with
    | none => rw [ho] at h; simp at h
    | some o =>
      rw [hc.heap ho (hs g hg)]
      rw [ho] at h
      exact h
theorem PowTab.new {w w' : World} (h : PowTab w) (hc : New w w') : PowTab w' := h.chg hc (fun _ _ h => h)
theorem grow_new (w : World) (k : Nat) (os : Array Obj) : New w (Sort.grow (w.drewN k) os) := by
  refine ⟨rfl, rfl, rfl, by simp [Sort.grow, World.drewN], fun j hj _ => ?_⟩
  simp only [Sort.grow, World.drewN]
  rw [Array.getElem?_append_left hj]

theorem itoa_any (d : Nat) (hd : d < 1000000000) (w : World) (ht : PowTab w) :
    Calls Tryz.prog 37 #[.int .i64 (d : Int)] w fun e w' => e = .returned (.string (St (decDigits d))) ∧ New w w' := by
  refine (Tryz.strconv_Itoa (d : Int) (by omega) (by omega) w ht).mono ?_
  rintro e w' ⟨rfl, k, os, rfl⟩
  refine ⟨?_, grow_new _ _ _⟩
  have : Lib.itoa (d : Int) = decDigits d := by
    unfold Lib.itoa
    rw [if_neg (by omega), Int.toNat_natCast]
  rw [this]
  rfl
theorem repeatL_rep (c : Nat) : Lib.repeatL [48] c = List.replicate c 48 := by
  induction c with
  | zero => rfl
  | succ c ih => rw [Lib.repeatL, ih, List.replicate_succ]; rfl
theorem repeat_any (c : Nat) (hc : c ≤ 9) (w : World) :
    Calls Tryz.prog 38 #[.string ⟨#[48]⟩, .int .i64 (c : Int)] w fun e w' => e = .returned (.string (St (List.replicate c 48))) ∧ New w w' := by
  refine (Tryz.strings_Repeat ⟨#[48]⟩ c w (by omega) (by rw [show (⟨#[48]⟩ : ByteArray).size = 1 by rfl]; omega)).mono ?_
  rintro e w' ⟨rfl, h⟩
  refine ⟨?_, New.of_below h⟩
  rw [show (⟨#[48]⟩ : ByteArray).data.toList = [48] by rfl, repeatL_rep]
  rfl
theorem elemStrs : Elem Tryz.prog 74 9 (.string ⟨#[]⟩) 16 := Elem.mk' Tryz.underlying74 (by kernel_rfl) rfl

/-- The parts of a text, the last first. -/
def joinR (ps : List (List UInt8)) : List UInt8 := ps.reverse.flatten
theorem joinR_snoc (ps : List (List UInt8)) (p : List UInt8) : joinR (ps ++ [p]) = p ++ joinR ps := by simp [joinR]
def StrI (T : List UInt8) (V : Nat) (ps : List (List UInt8)) : Prop := (if V = 0 then joinR ps else decDigits V ++ joinR ps) = T
theorem str_more {T : List UInt8} {V : Nat} {ps : List (List UInt8)} (h : StrI T V ps) (hq : 0 < V / 1000000000) : StrI T (V / 1000000000) (ps ++ [Txt.pad 9 (V % 1000000000)]) := by
  unfold StrI at h ⊢
  rw [if_neg (by omega)] at h ⊢
  have e := Txt.dec_pad 9 (V / 1000000000) (V % 1000000000) (Nat.mod_lt _ (by omega)) hq
  rw [show V / 1000000000 * 10 ^ 9 + V % 1000000000 = V by omega] at e
  rw [← h, e, joinR_snoc, List.append_assoc]
theorem str_last {T : List UInt8} {V : Nat} {ps : List (List UInt8)} (h : StrI T V ps) (h0 : V ≠ 0) (hq : V / 1000000000 = 0) : StrI T 0 (ps ++ [decDigits (V % 1000000000)]) := by
  unfold StrI at h ⊢
  rw [if_neg h0] at h
  rw [if_pos rfl, joinR_snoc, Nat.mod_eq_of_lt (by omega), h]
theorem pad9 {d : Nat} (hd : d < 1000000000) : List.replicate (9 - (decDigits d).length) 48 ++ decDigits d = Txt.pad 9 d := (Txt.pad_dec 9 d (by omega) (by omega)).symm
def strs (ps : List (List UInt8)) : List Value := ps.map (fun p => Value.string (St p))
theorem strs_one (ps : List (List UInt8)) : ∀ u ∈ strs ps, u.oneCell' = true := by
  intro u hu
  obtain ⟨_, _, rfl⟩ := List.mem_map.1 hu
  rfl
theorem strs_len (ps : List (List UInt8)) : (strs ps).length = ps.length := by simp [strs]

theorem StrI.len {T : List UInt8} {V : Nat} {ps : List (List UInt8)} (h : StrI T V ps) (hl : ps.length ≤ (joinR ps).length) : ps.length ≤ T.length := by
  unfold StrI at h
  rw [← h]
  split
  · exact hl
  · rw [List.length_append]; omega
theorem dec_words {Z n : Nat} (h : Z < 4294967296 ^ n) (hn : 1 ≤ n) : (decDigits Z).length ≤ 10 * n := by
  refine Txt.dec_len_le (by omega) (Nat.lt_of_lt_of_le h ?_)
  rw [Nat.pow_mul]
  exact Nat.pow_le_pow_left (by decide) n
/-- What the first loop of String holds. -/
def S1 (w : World) (T : List UInt8) (R : Option Addr) (m d : Nat) (PA : Option Addr) (k pc V : Nat) (ps : List (List UInt8)) (wr : World) : Prop :=
  WM wr R m d V ∧ StrI T V ps ∧ ps.length = k ∧ k ≤ (joinR ps).length ∧ wr.ownsRow w.heap.size 9 1 (.slice PA k pc) k (strs ps) ∧ New w wr
theorem chg_below {B : Nat} {w w' : World} (h : Below B w w') : Chg (fun j => B ≤ j) w w' := ⟨h.os, h.tape, h.output, h.size, fun k _ hn => h.block k (by omega)⟩
/-- What the second loop of String holds. -/
def S2 (wo : World) (gb : Nat) (sgn : List UInt8) (ps : List (List UInt8)) (k : Nat) (wr : World) : Prop :=
  Lib.IsBuilder 82 5 gb gb (Lib.byteCells (sgn ++ (ps.drop k).reverse.flatten)) wr ∧ Chg (fun j => gb ≤ j) wo wr
theorem flat_step {ps : List (List UInt8)} {k : Nat} {p : List UInt8} (h : ps[k]? = some p) : (ps.drop k).reverse.flatten = (ps.drop (k + 1)).reverse.flatten ++ p := by
  obtain ⟨hk, hp⟩ := List.getElem?_eq_some_iff.1 h
  rw [List.drop_eq_getElem_cons hk, hp]
  simp
theorem flat_le (ps : List (List UInt8)) (k : Nat) : (ps.drop k).reverse.flatten.length ≤ (joinR ps).length := by
  unfold joinR
  rw [← List.take_append_drop k ps, List.reverse_append, List.flatten_append, List.length_append]
  simp
theorem strCells_St (p : List UInt8) : Lib.strCells (St p) = Lib.byteCells p := by
  unfold Lib.strCells Lib.byteCells
  rw [St_dat]
theorem strs_at {ps : List (List UInt8)} {k : Nat} {u : Value} (h : (strs ps)[k]? = some u) : ∃ p, ps[k]? = some p ∧ u = .string (St p) := by
  simp only [strs, List.getElem?_map, Option.map_eq_some_iff] at h
  obtain ⟨c, h1, h2⟩ := h
  exact ⟨c, h1, h2.symm⟩
theorem S1.next {w2 wo w3 w6 w7 : World} {T : List UInt8} {R : Option Addr} {m d : Nat} {PA : Option Addr} {k pc V : Nat} {ps : List (List UInt8)} {g3 T1 m1 V1 c7 : Nat} {A7 : Option Addr} {p : List UInt8} {o : Obj} (h : S1 w2 T R m d PA k pc V ps wo) (hg : wo.heap.size ≤ g3) (hn3 : New wo w3) (hwm : WM w3 (some ⟨g3, 0, none⟩) T1 m1 V1) (hn6 : New w3 w6)
    (hown : w7.ownsRow w2.heap.size 9 1 (.slice A7 (k + 1) c7) (k + 1) (strs ps ++ strs [p])) (hgr : (w6.alloc o).grownBy w7 (blk PA)) (hst : StrI T V1 (ps ++ [p])) (hp : 1 ≤ p.length) : S1 w2 T (some ⟨g3, 0, none⟩) T1 m1 A7 (k + 1) c7 V1 (ps ++ [p]) w7 := by
  obtain ⟨h1, h2, h3, h4, h5, h6⟩ := h
  have hch : Chg (fun j => blk PA = some j) w6 w7 := ((Chg.refl _ w6).alloc o).grown hgr (fun j hj _ => hj)
  refine ⟨(hwm.new hn6).chg hch (fun j hj e => ?_), hst, by simp [h3], by rw [joinR_snoc, List.length_append]; omega, by rw [show strs (ps ++ [p]) = strs ps ++ strs [p] by simp [strs]]; exact hown, ?_⟩
  · have := (own_blk_le h5 e).2
    simp [blk] at hj
    omega
  · exact ((h6.new hn3).new hn6).trans hch (fun j hj e => by have := (own_blk_le h5 e).1; omega)
theorem rd_str {w : World} {b : ByteArray} {l : List UInt8} {e : TypeId} {g : Nat} (hg : g = w.heap.size) (hb : b = St l) : Rd (w.alloc (.cells #[.string b] e)) (some ⟨g, 0, none⟩) 1 (strs [l]) := by
  subst hg hb; exact Rd.lit (strs [l]) rfl

set_option maxHeartbeats 4000000 in
set_option maxRecDepth 100000 in
theorem wstring_any (v : Value) (z : Int) (w : World) (hv : WI w v z) (hpt : PowTab w) (hz : z.natAbs < 2 ^ 900000) :
    Calls Tryz.prog 15 #[v] w fun e w' => e = .returned (.string (St (Txt.text z))) ∧ New w w' := by
  obtain ⟨s, A, n, c, rfl, hs, hm⟩ := hv
  have hn := bz_wlen hm hz
  clear hz
  obtain ⟨T, hT⟩ : ∃ T, Txt.text z = T := ⟨_, rfl⟩
  rw [hT]
  by_cases h0 : n = 0
  · subst h0
    have hz0 : z.natAbs = 0 := hm.pos.1 rfl
    obtain rfl : [48] = T := by
      rw [← hT]; unfold Txt.text; rw [if_neg (by omega), hz0, Txt.dec_small (by omega)]; rfl
    clear hm hT hz0 hs hpt
    go_enter Tryz.func15, Tryz.ntmps15
    go_wp2
    go_ret
    exact ⟨rfl, (Chg.refl _ w).alloc _⟩
  · have hn0 : ((n : Int) == 0) = false := by simp; omega
    obtain ⟨Z, hZ⟩ : ∃ Z, z.natAbs = Z := ⟨_, rfl⟩
    rw [hZ] at hm
    have hZ1 : Z ≠ 0 := fun h => h0 (hm.pos.2 h)
    obtain ⟨la, hr, hnc, hc, hN⟩ := hm
    have H0 := Lib.hid (And.intro hr (And.intro hN (And.intro hs (And.intro hT (And.intro hZ hpt)))))
    have hbW := fun (W : World) => Rd.new (w := w) (w' := W) hr
    clear hr hN hs hT hZ hpt hbW
    go_enter Tryz.func15, Tryz.ntmps15
    go_upto_region 3 with fail
    refine Code.new1 ?_
    intro W hb1 hnW hzW
    have hk1 := hb1.cell 1 (u := .slice A n c) rfl
    have HW := Lib.hid (And.intro hb1 hnW)
    clear hb1 hnW hzW
    go_wp2_with (first
      | (at_make; refine wpList_mk elemU32 rfl rfl _ _ rfl (n := n) rfl rfl (by omega) (by omega) (by omega) (by simp only [maxLen]; omega) ?_; intro w1 hown1 hg1 hz1; have HMK := Lib.hid (And.intro hown1 (And.intro hg1 hz1)); have hk2 := hg1.cell hk1 (fun h => h); clear hown1 hg1 hz1)
      | ((with_reducible refine wpList_cp elemU32 rfl (.tmp 17) (.tmp 19) rfl rfl HMK.out.1 rfl (Nat.le_refl _) ((H0.out.1.new HW.out.2).new HMK.out.2.1) (nv_one _) ?_); intro w2 hown2 hch2; have HCP := Lib.hid (And.intro hown2 hch2); clear hown2 hch2))
    have hnw2 : New w w2 := Chg.owned (HW.out.2.new HMK.out.2.1) HCP.out.2 (fun k e => by have := HW.out.2.size; omega)
    have hb2 : Blk w2 w.heap.size 35 #[.bool s, .slice A n c] := (HW.out.1.chg HMK.out.2.1 (fun h => h)).chg HCP.out.2 (by have := HW.out.1.lt; omega)
    have hZlt : Z < 4294967296 ^ n := H0.out.2.1.lt (by omega) (by have := H0.out.1.len; rw [nv_length] at this; omega)
    obtain ⟨TD, hTD⟩ : ∃ x, decDigits Z = x := ⟨_, rfl⟩
    have hTl : TD.length ≤ 9000000 := by rw [← hTD]; have := dec_words hZlt (by omega); omega
    have hS : S1 w2 TD (some ⟨W.heap.size, 0, none⟩) n n none 0 0 Z [] w2 := by
      refine ⟨⟨la, ?_, Nat.le_refl _, by omega, H0.out.2.1⟩, ?_, rfl, Nat.zero_le _, World.ownsRow_nil w2 w2.heap.size _ _, Chg.refl _ _⟩
      · have := Rd.of_own HCP.out.1
        rwa [List.drop_eq_nil_of_le (by simp), List.append_nil] at this
      · unfold StrI; rw [if_neg hZ1, hTD]; simp [joinR]
    obtain ⟨gr, hgr⟩ : ∃ x, W.heap.size = x := ⟨_, rfl⟩
    rw [hgr] at hS
    simp only [hgr]
    have H2 := Lib.hid (And.intro hS (And.intro hnw2 (And.intro hb2 hTD)))
    clear hnw2 hb2 hZlt hTD hS hgr HCP HMK hk1 hk2
    go_loopw [3, 4, 5, 6] (fun s3 s4 _ _ wr => ∃ (R : Option Addr) (m d : Nat) (PA : Option Addr) (k pc V : Nat) (ps : List (List UInt8)), s3 = .slice R m d ∧ s4 = .slice PA k pc ∧ m ≤ 900000 ∧ Hid (S1 w2 TD R m d PA k pc V ps wr)) (fun s3 s4 _ _ _ => match s3, s4 with | .slice _ m _, .slice _ k _ => if m = 0 then 0 else 9000001 - k | _, _ => 0)
    case atStart => exact ⟨_, n, n, none, 0, 0, Z, [], rfl, rfl, hn, H2.out.1⟩
    case round =>
      obtain ⟨R, m, d, PA, k, pc, V, ps, rfl, rfl, hm, HS⟩ := hrel
      obtain ⟨wo, rfl⟩ : ∃ wo : World, wo = wr := ⟨_, rfl⟩
      obtain ⟨hwm, hst, hpl, hpj, hown, hnw⟩ := HS.out
      have hkT : k ≤ 9000000 := by have := hst.len (by omega); omega
      by_cases hm0 : m = 0
      · subst hm0
        have hV0 : V = 0 := hwm.pos.1 rfl
        subst hV0
        obtain ⟨gb, hgb⟩ : ∃ x, wo.heap.size = x := ⟨_, rfl⟩
        have hbo := H2.out.2.2.1.chg hnw (fun h => h)
        have hk0 := ((Chg.refl (fun _ => False) wo).alloc (.cells #[.pointer none, .slice none 0 0] 82)).cell (hbo.cell 0 (u := .bool s) rfl) (fun h => h)
        have hjT : joinR ps = TD := by unfold StrI at hst; rw [if_pos rfl] at hst; exact hst
        have hrd : Rd wo PA k (strs ps) := Rd.of_own hown
        have hblk : ∀ j, blk PA = some j → j < gb := fun j hj => by have := (own_blk_le hown hj).2; omega
        have hneww : New w wo := H2.out.2.1.new hnw
        have hlen : ∀ j, (ps.drop j).reverse.flatten.length ≤ 9000000 := fun j => Nat.le_trans (flat_le ps j) (by rw [hjT]; exact hTl)
        have HP := Lib.hid (And.intro hjT (And.intro hrd (And.intro hblk (And.intro hneww (And.intro hlen (And.intro hpl hgb))))))
        clear hwm hst hpj hown hnw HS hbo hjT hrd hblk hneww hlen hpl
        have fin : ∀ (sgn : List UInt8), sgn.length ≤ 1 → sgn ++ TD = T → ∀ (wr : World), S2 wo gb sgn ps 0 wr → Calls Tryz.prog 41 #[.pointer (some ⟨gb, 0, none⟩)] wr fun e w' => e = .returned (.string (St T)) ∧ Hid (New w w') := fun sgn _ hT wr h => by
          obtain ⟨h1, h2⟩ := h
          obtain ⟨hjT, hrd, hblk, hneww, hlen, hpl, hgb⟩ := HP.out
          rw [List.drop_zero, show ps.reverse.flatten = joinR ps by rfl, hjT, hT] at h1
          refine (Tryz.Builder_String_any gb gb T wr h1 (by have := h2.size; omega)).mono ?_
          rintro e w' ⟨rfl, hb⟩
          exact ⟨rfl, hneww.trans (h2.trans (chg_below hb) (fun _ _ h => h)) (fun j hj e => by have := hneww.size; omega)⟩
        have stp : ∀ (sgn : List UInt8), sgn.length ≤ 1 → ∀ (i : Nat) (p : List UInt8) (wr : World), ps[i]? = some p → S2 wo gb sgn ps (i + 1) wr → Calls Tryz.prog 40 #[.pointer (some ⟨gb, 0, none⟩), .string (St p)] wr fun e w' => (∃ v, e = .returned v) ∧ Hid (S2 wo gb sgn ps i w') := fun sgn hs1 i p wr hp h => by
          obtain ⟨h1, h2⟩ := h
          obtain ⟨hjT, hrd, hblk, hneww, hlen, hpl, hgb⟩ := HP.out
          have hl := hlen i
          rw [flat_step hp, List.length_append] at hl
          refine (Tryz.Builder_WriteString gb gb _ (St p) wr h1 (by simp only [Lib.byteCells, List.length_map, List.length_append, St_size]; omega) (by have := h2.size; omega)).mono ?_
          rintro e w' ⟨rfl, hb, hbel⟩
          refine ⟨⟨_, rfl⟩, ?_, h2.trans (chg_below hbel) (fun _ _ h => h)⟩
          rw [strCells_St, ← Lib.byteCells_append, List.append_assoc, ← flat_step hp] at hb
          exact .inr hb
        have HF := Lib.hid (And.intro fin stp)
        clear fin stp
        obtain ⟨hr, hN, hs, hT, hZ, hpt⟩ := H0.out
        have hTD := H2.out.2.2.2
        have hstart : Lib.IsBuilder 82 5 gb gb [] (wo.alloc (.cells #[.pointer none, .slice none 0 0] 82)) := by rw [← hgb]; exact Lib.fresh_isBuilder _ _ _
        cases s
        · have hsgn : [] ++ TD = T := by
            rw [← hT, ← hTD, ← hZ]; unfold Txt.text; rw [if_neg (by simpa using hs.symm)]; rfl
          have HS := Lib.hid (And.intro hsgn hstart)
          clear hr hN hs hT hZ hpt hTD hsgn hstart
          have HST : Hid (S2 wo gb [] ps k (wo.alloc (.cells #[.pointer none, .slice none 0 0] 82))) := by
            refine ⟨?_, (Chg.refl _ wo).alloc _⟩
            rw [List.drop_eq_nil_of_le (by have := HP.out.2.2.2.2.2.1; omega)]
            exact HS.out.2
          go_wp2_with fail
          clear hk0
          go_loopw [8] (fun i wr => ∃ j : Nat, i = .int .i64 ((j : Int) - 1) ∧ j ≤ k ∧ Hid (S2 wo gb [] ps j wr)) (fun i _ => (intOf i + 1).toNat)
          case atStart => exact ⟨k, rfl, Nat.le_refl _, HST⟩
          case round =>
            obtain ⟨j, rfl, hjk, HI⟩ := hrel
            obtain ⟨wq, rfl⟩ : ∃ wq : World, wq = wr := ⟨_, rfl⟩
            by_cases hj0 : j = 0
            · subst hj0
              rw [show (((0 : Nat) : Int) - 1) = -1 by rfl]
              go_wp2_with fail
              refine (HF.out.1 [] (by simp) HS.out.1 wq HI.out).mono ?_
              rintro e w9 ⟨rfl, H9⟩
              go_wp2
              go_ret
              exact ⟨rfl, H9.out⟩
            · obtain ⟨i, rfl⟩ : ∃ i, j = i + 1 := ⟨j - 1, by omega⟩
              rw [show (((i + 1 : Nat) : Int) - 1) = (i : Int) by omega]
              obtain ⟨hjT, hrd, hblk, hneww, hlen, hpl, hgb'⟩ := HP.out
              obtain ⟨ad, u, rfl, hu, hcu⟩ := (hrd.chg HI.out.2 (fun q hq _ e => by have := hblk q hq; omega)).at_ (show i < k by omega)
              obtain ⟨pp, hpp, rfl⟩ := strs_at hu
              have hst := HF.out.2 [] (by simp) i pp wq hpp HI.out
              have HST2 := Lib.hid hst
              clear hjT hrd hblk hneww hlen hpl hgb' hu hpp hst hj0
              go_wp2_with fail
              refine HST2.out.mono ?_
              rintro e w9 ⟨⟨ve, rfl⟩, H9⟩
              go_wp2
              go_roundw
              case rel => exact ⟨i, rfl, by omega, H9⟩
              case measure => simp [intOf]
        · have hsgn : [45] ++ TD = T := by
            rw [← hT, ← hTD, ← hZ]; unfold Txt.text; rw [if_pos (by simpa using hs.symm)]; rfl
          have HS := Lib.hid (And.intro hsgn hstart)
          clear hr hN hs hT hZ hpt hTD hsgn hstart
          go_wp2_with fail
          refine (Tryz.Builder_WriteByte gb gb [] 45 _ HS.out.2 (by simp) (by have := hgb; simp; omega)).mono ?_
          rintro e w8 ⟨rfl, hb8, hbel8⟩
          have HST : Hid (S2 wo gb [45] ps k w8) := by
            refine ⟨.inr ?_, ((Chg.refl _ wo).alloc _).trans (chg_below hbel8) (fun _ _ h => h)⟩
            rw [List.drop_eq_nil_of_le (by have := HP.out.2.2.2.2.2.1; omega)]
            exact hb8
          clear hb8 hbel8
          go_wp2_with fail
          clear hk0
          go_loopw [8] (fun i wr => ∃ j : Nat, i = .int .i64 ((j : Int) - 1) ∧ j ≤ k ∧ Hid (S2 wo gb [45] ps j wr)) (fun i _ => (intOf i + 1).toNat)
          case atStart => exact ⟨k, rfl, Nat.le_refl _, HST⟩
          case round =>
            obtain ⟨j, rfl, hjk, HI⟩ := hrel
            obtain ⟨wq, rfl⟩ : ∃ wq : World, wq = wr := ⟨_, rfl⟩
            by_cases hj0 : j = 0
            · subst hj0
              rw [show (((0 : Nat) : Int) - 1) = -1 by rfl]
              go_wp2_with fail
              refine (HF.out.1 [45] (by simp) HS.out.1 wq HI.out).mono ?_
              rintro e w9 ⟨rfl, H9⟩
              go_wp2
              go_ret
              exact ⟨rfl, H9.out⟩
            · obtain ⟨i, rfl⟩ : ∃ i, j = i + 1 := ⟨j - 1, by omega⟩
              rw [show (((i + 1 : Nat) : Int) - 1) = (i : Int) by omega]
              obtain ⟨hjT, hrd, hblk, hneww, hlen, hpl, hgb'⟩ := HP.out
              obtain ⟨ad, u, rfl, hu, hcu⟩ := (hrd.chg HI.out.2 (fun q hq _ e => by have := hblk q hq; omega)).at_ (show i < k by omega)
              obtain ⟨pp, hpp, rfl⟩ := strs_at hu
              have hst := HF.out.2 [45] (by simp) i pp wq hpp HI.out
              have HST2 := Lib.hid hst
              clear hjT hrd hblk hneww hlen hpl hgb' hu hpp hst hj0
              go_wp2_with fail
              refine HST2.out.mono ?_
              rintro e w9 ⟨⟨ve, rfl⟩, H9⟩
              go_wp2
              go_roundw
              case rel => exact ⟨i, rfl, by omega, H9⟩
              case measure => simp [intOf]
      · have hmp : (0 : Int) < (m : Int) := by omega
        have hmp' : 0 < m := by omega
        have hV0 : V ≠ 0 := fun h => hm0 (hwm.pos.2 h)
        have hdw := divWord_any R m d V 1000000000 wo hwm (by omega) (by omega) (by omega)
        obtain ⟨lo, hlo⟩ : ∃ x, V % 1000000000 = x := ⟨_, rfl⟩
        obtain ⟨hi, hhi⟩ : ∃ x, V / 1000000000 = x := ⟨_, rfl⟩
        rw [hlo, hhi] at hdw
        have hlob : lo < 1000000000 := by omega
        have hll := Txt.dec_len_le (u := lo) (k := 9) (by omega) (by omega)
        obtain ⟨tx, htx⟩ : ∃ x, St (decDigits lo) = x := ⟨_, rfl⟩
        have htxs : tx.size = (decDigits lo).length := by rw [← htx, St_size]
        have htx9 : tx.size ≤ 9 := by omega
        have hit := fun W h => itoa_any lo hlob W h
        rw [htx] at hit
        have HD := Lib.hid (And.intro hdw (And.intro hit (And.intro htx (And.intro htxs (And.intro hlo hhi)))))
        have HX := Lib.hid (And.intro hwm (And.intro hst (And.intro hpl (And.intro hpj (And.intro hown hnw)))))
        clear hdw hit htx htxs hlo hhi hwm hst hpl hpj hown hnw hll
        go_wp2_with fail
        refine HD.out.1.mono ?_
        rintro e w3 ⟨l3, g3, rfl, H3⟩
        go_wp2_with fail
        refine (trim_wm _ _ _ l3 w3 H3.out.1 H3.out.2.1 (Nat.le_refl _) (by omega)).mono ?_
        rintro e w4 ⟨T1, rfl, HT1, rfl⟩
        go_wp2_with fail
        refine (HD.out.2.1 w3 (((H0.out.2.2.2.2.2.new H2.out.2.1).new HX.out.2.2.2.2.2).new H3.out.2.2.2.2)).mono ?_
        rintro e w5 ⟨rfl, hn5⟩
        have HN5 := Lib.hid hn5
        have hT1 := HT1.out.1.pos
        rw [H3.out.2.2.1] at hT1
        clear hn5
        by_cases hq : hi = 0
        · obtain rfl : T1 = 0 := hT1.2 hq
          have HQ := Lib.hid hq
          clear hT1 hq
          go_wp2_with (at_builtin; refine wpList_app elemStrs rfl _ _ rfl rfl (own_chg (own_chg (own_chg HX.out.2.2.2.2.1 H3.out.2.2.2.2 (fun _ _ h => h)) HN5.out (fun _ _ h => h)) ((Chg.refl (fun _ => False) w5).alloc (.cells #[.string tx] 9)) (fun _ _ h => h)) rfl (rd_str rfl HD.out.2.2.1.symm) (strs_one _) (by simp only [maxLen]; omega) (by omega) (by have := HX.out.2.2.2.2.2.size; have := H3.out.2.2.2.2.size; have := HN5.out.size; simp; omega) ?_; intro A7 c7 w7 hown7 hg7 hat7; have HA7 := Lib.hid (And.intro hown7 (And.intro hg7 hat7)); clear hown7 hg7 hat7)
          go_roundw
          case rel =>
            refine ⟨_, 0, m, A7, k + 1, c7, hi, ps ++ [decDigits lo], rfl, rfl, by omega, ?_⟩
            have hst := str_last HX.out.2.1 hV0 (by have := HD.out.2.2.2.2.2; have := HQ.out; omega)
            rw [HD.out.2.2.2.2.1, ← HQ.out] at hst
            have hwm3 := HT1.out.1
            rw [H3.out.2.2.1] at hwm3
            exact S1.next HS.out H3.out.2.2.2.1 H3.out.2.2.2.2 hwm3 HN5.out HA7.out.1 HA7.out.2.1 hst (Txt.dec_len_pos _)
          case measure =>
            show (if 0 = 0 then 0 else 9000001 - (k + 1)) < (if m = 0 then 0 else 9000001 - k)
            rw [if_pos rfl, if_neg (by omega)]
            omega
        · have hT1p : (0 : Int) < (T1 : Int) := by
            rcases Nat.eq_zero_or_pos T1 with h | h
            · exact absurd (hT1.1 h) hq
            · omega
          have hT1p' : 0 < T1 := by omega
          have HQ := Lib.hid hq
          clear hT1 hq
          obtain ⟨cn, hcn⟩ : ∃ x, 9 - tx.size = x := ⟨_, rfl⟩
          have hcni : (9 : Int) - ((tx.size : Nat) : Int) = (cn : Int) := by omega
          have hcnb : cn ≤ 9 := by omega
          go_wp2_with fail
          refine (repeat_any cn hcnb w5).mono ?_
          rintro e w6 ⟨rfl, hn6⟩
          obtain ⟨zs, hzs⟩ : ∃ x, St (List.replicate cn 48) = x := ⟨_, rfl⟩
          rw [hzs]
          have hzss : zs.size = cn := by rw [← hzs, St_size]; simp
          have hsz : ¬ 9223372036854775807 < zs.size + tx.size := by omega
          have hcat : zs ++ tx = St (Txt.pad 9 lo) := by
            rw [← hzs, ← HD.out.2.2.1, St_app, ← hcn, HD.out.2.2.2.1, pad9 hlob]
          have H6 := Lib.hid (And.intro hn6 hcat)
          clear hn6 hzs hcn hcat hzss
          go_wp2_with (at_builtin; refine wpList_app elemStrs rfl _ _ rfl rfl (own_chg (own_chg (own_chg (own_chg HX.out.2.2.2.2.1 H3.out.2.2.2.2 (fun _ _ h => h)) HN5.out (fun _ _ h => h)) H6.out.1 (fun _ _ h => h)) ((Chg.refl (fun _ => False) w6).alloc (.cells #[.string (zs ++ tx)] 9)) (fun _ _ h => h)) rfl (rd_str rfl H6.out.2) (strs_one _) (by simp only [maxLen]; omega) (by omega) (by have := HX.out.2.2.2.2.2.size; have := H3.out.2.2.2.2.size; have := HN5.out.size; have := H6.out.1.size; simp; omega) ?_; intro A7 c7 w7 hown7 hg7 hat7; have HA7 := Lib.hid (And.intro hown7 (And.intro hg7 hat7)); clear hown7 hg7 hat7)
          go_roundw
          case rel =>
            refine ⟨_, T1, m, A7, k + 1, c7, hi, ps ++ [Txt.pad 9 lo], rfl, rfl, by have := HT1.out.2; omega, ?_⟩
            have hst := str_more HX.out.2.1 (by have := HD.out.2.2.2.2.2; have := HQ.out; omega)
            rw [HD.out.2.2.2.2.1, HD.out.2.2.2.2.2] at hst
            have hwm3 := HT1.out.1
            rw [H3.out.2.2.1] at hwm3
            exact S1.next HS.out H3.out.2.2.2.1 H3.out.2.2.2.2 hwm3 (HN5.out.new H6.out.1) HA7.out.1 HA7.out.2.1 hst (by rw [Txt.pad_len]; omega)
          case measure =>
            show (if T1 = 0 then 0 else 9000001 - (k + 1)) < (if m = 0 then 0 else 9000001 - k)
            rw [if_neg (by omega), if_neg (by omega)]
            omega
end Go.Proofs.YtmpkaimhjdkheaaGreatDoor

namespace Go.Proofs.YtmpkaimhjdkheaaGreatDoor
set_option linter.unusedVariables false
open Go.RowKit Go.Mem Go.Dig
open Go.Lib (decDigits)

def tpow (k : Nat) : Nat := 10 ^ k
/-- Texts of what is below this have at most 4934 bytes. -/
def dmax : Nat := tpow 4933
theorem pow_93 (k : Nat) : 2 ^ (93 * k) ≤ tpow (28 * k) := by
  unfold tpow
  rw [Nat.pow_mul, Nat.pow_mul]
  exact Nat.pow_le_pow_left (by decide) k
theorem tpow_add (a b : Nat) : tpow (a + b) = tpow a * tpow b := Nat.pow_add 10 a b
theorem powN_two (k m : Nat) (h : 32 * k = m) : powN k = 2 ^ m := by
  subst h
  unfold powN
  rw [Nat.pow_mul]
theorem pow_split (a b m : Nat) (h : a + b = m) : 2 ^ m = 2 ^ a * 2 ^ b := by subst h; exact Nat.pow_add 2 a b
theorem tpow_split (a b m : Nat) (h : a + b = m) : tpow m = tpow a * tpow b := by subst h; exact tpow_add a b
theorem top_gen (K J a m j : Nat) (h1 : 32 * K = m) (h2 : 93 * j + 16 = m) (h3 : 28 * j + 5 = J) : powN K + 10000 ≤ tpow J := by
  rw [powN_two K m h1, pow_split (93 * j) 16 m h2, tpow_split (28 * j) 5 J h3]
  have h := pow_93 j
  have hp : 1 ≤ 2 ^ (93 * j) := Nat.one_le_two_pow
  have e : tpow 5 = 100000 := rfl
  have e2 : (2 : Nat) ^ 16 = 65536 := rfl
  rw [e, e2]
  generalize 2 ^ (93 * j) = Y at *
  generalize tpow (28 * j) = X at *
  omega
theorem top_dmax : topN + 10000 ≤ dmax := top_gen 512 4933 0 16384 176 (by decide) (by decide) (by decide)
theorem text_short' {z : Int} {k : Nat} (h : z.natAbs < tpow k) (hk : 1 ≤ k) : (Txt.text z).length ≤ k + 1 := Txt.text_len hk h
theorem text_short {z : Int} (h : z.natAbs < dmax) : (Txt.text z).length ≤ 5000 := Nat.le_trans (text_short' (k := 4933) h (by decide)) (by decide)
theorem tpow_le (k m : Nat) (h : 4 * k ≤ m) : tpow k ≤ 2 ^ m := by
  unfold tpow
  refine Nat.le_trans (Nat.pow_le_pow_left (show 10 ≤ 2 ^ 4 by decide) k) ?_
  rw [← Nat.pow_mul]
  exact Nat.pow_le_pow_right (by omega) h
theorem dmax_pow : dmax ≤ 2 ^ 900000 := tpow_le 4933 900000 (by decide)
theorem dmax_pow' : dmax ≤ 2 ^ 1000000 := tpow_le 4933 1000000 (by decide)

/-- Parse of the text of an integer. -/
theorem wparse_text (z : Int) (hz : z.natAbs < dmax) (w : World) :
    Calls Tryz.prog 11 #[.string (St (Txt.text z))] w fun e w' => ∃ s A n c, e = .returned (.tuple #[.agg #[.bool s, .slice A n c], .int .i64 (rgE z)]) ∧ Hid (WI w' (.agg #[.bool s, .slice A n c]) (rg z) ∧ New w w') :=
  wparse_ok _ _ rfl (by rw [St_size]; exact text_short hz) z (Txt.reads_text z) w

theorem eq_texts {x a : Int} {b1 b2 : ByteArray} (h1 : St (Txt.text x) = b1) (h2 : St (Txt.text a) = b2) : (b1.toList == b2.toList) = decide (x = a) := by
  rw [Lib.toList_data, Lib.toList_data, ← h1, ← h2, St_dat, St_dat, Bool.eq_iff_iff]
  simp only [beq_iff_eq, decide_eq_true_eq]
  exact ⟨Txt.text_inj, fun h => by rw [h]⟩

end Go.Proofs.YtmpkaimhjdkheaaGreatDoor

namespace Go.Proofs.YtmpkaimhjdkheaaGreatDoor
set_option linter.unusedVariables false
open Go.RowKit Go.Mem Go.Dig

/-- Two variables that hold integers, in blocks of the call's own. -/
structure PwI (w wr : World) (B g1 g2 : Nat) (s1 : Bool) (A1 : Option Addr) (n1 c1 : Nat) (s2 : Bool) (A2 : Option Addr) (n2 c2 : Nat) (P Q : Nat) : Prop where
  res : Blk wr B 26 #[.bool false, .slice none 0 0]
  b1 : Blk wr g1 26 #[.bool s1, .slice A1 n1 c1]
  b2 : Blk wr g2 26 #[.bool s2, .slice A2 n2 c2]
  r1 : RN wr (.agg #[.bool s1, .slice A1 n1 c1]) (P : Int)
  r2 : RN wr (.agg #[.bool s2, .slice A2 n2 c2]) (Q : Int)
  new : New w wr
theorem pow_lt2 {t K : Nat} (h : t < K) : ((2 ^ t : Nat) : Int).natAbs < 2 ^ K := by
  rw [Int.natAbs_natCast]
  exact Nat.pow_lt_pow_right (by omega) h
theorem pow_big {t : Nat} (h : t ≤ 100000) : ((2 ^ t : Nat) : Int).natAbs < 2 ^ 1000000 := pow_lt2 (K := 1000000) (Nat.lt_of_le_of_lt h (by decide))

set_option maxRecDepth 100000 in
set_option maxHeartbeats 4000000 in
theorem power_any (k : Nat) (hk : k ≤ 100000) (w : World) :
    Calls Tryz.prog 9 #[.int .i64 k] w fun e w' => ∃ v, e = .returned v ∧ RN w' v ((2 ^ k : Nat) : Int) ∧ New w w' := by
  obtain ⟨Z, hZ⟩ : ∃ Z, 2 ^ k = Z := ⟨_, rfl⟩
  rw [hZ]
  have HZ := Lib.hid hZ
  clear hZ
  go_enter Tryz.func9, Tryz.ntmps9
  go_wp2_with fail
  refine Calls.new1 ?_
  intro W1 hb1 hn1 hz1
  refine (of_any 1 W1 (by omega) (by omega)).mono ?_
  rintro e w2 ⟨v2, rfl, ⟨s2, A2, n2, c2, rfl, hs2, hm2⟩, hn2⟩
  have H2 := Lib.hid (And.intro (hb1.chg hn2 (fun h => h)) (And.intro (hn1.new hn2) (And.intro hs2 hm2)))
  clear hb1 hn1 hz1 hs2 hm2 hn2
  go_wp2_with fail
  refine Calls.new1 ?_
  intro W3 hb3 hn3 hz3
  refine (of_any 2 W3 (by omega) (by omega)).mono ?_
  rintro e w4 ⟨v4, rfl, ⟨s4, A4, n4, c4, rfl, hs4, hm4⟩, hn4⟩
  obtain ⟨g1, hg1⟩ : ∃ g, w2.heap.size = g := ⟨_, rfl⟩
  obtain ⟨g2, hg2⟩ : ∃ g, w4.heap.size = g := ⟨_, rfl⟩
  have hPw : PwI w (w4.alloc (.cells #[.bool s4, .slice A4 n4 c4] 26)) w.heap.size g1 g2 s2 A2 n2 c2 s4 A4 n4 c4 1 2 := by
    obtain ⟨hb, hn, hs2, hm2⟩ := H2.out
    have hn34 := hn3.new hn4
    exact ⟨((hb.chg hn34 (fun h => h))).alloc _, by rw [← hg1]; exact (hb3.chg hn4 (fun h => h)).alloc _, by rw [← hg2]; exact Blk.new _ _ _, RN.new ⟨s2, A2, n2, c2, rfl, hs2, hm2⟩ (hn34.alloc _), RN.new ⟨s4, A4, n4, c4, rfl, hs4, hm4⟩ ((Chg.refl _ _).alloc _), (hn.new hn34).alloc _⟩
  have hlt1 : w.heap.size < g1 := by have := H2.out.1.lt; omega
  have hlt2 : g1 < g2 := by have := hb3.lt; have := hn4.size; omega
  have HP := Lib.hid hPw
  clear hb3 hn3 hz3 hs4 hm4 hn4 hPw H2
  go_wp2_with fail
  obtain ⟨W5, hW5⟩ : ∃ W5, w4.alloc (.cells #[.bool s4, .slice A4 n4 c4] 26) = W5 := ⟨_, rfl⟩
  rw [hW5] at HP
  rw [hW5]
  clear hW5 hg1 hg2
  go_loopw [0] (fun v wr => ∃ m p t : Nat, ∃ s1 A1 n1 c1 s2 A2 n2 c2, v = .int .i64 m ∧ m ≤ k ∧ Hid (p + t * m = k ∧ (0 < m → t ≤ k)) ∧ Hid (PwI w wr w.heap.size g1 g2 s1 A1 n1 c1 s2 A2 n2 c2 (2 ^ p) (2 ^ t))) (fun v _ => (intOf v).toNat)
  case atStart => exact ⟨k, 0, 1, s2, A2, n2, c2, s4, A4, n4, c4, rfl, Nat.le_refl _, ⟨by omega, fun h => by omega⟩, HP.out⟩
  case round =>
    clear HP
    obtain ⟨m, p, t, s1, A1, n1, c1, s2, A2, n2, c2, rfl, hmk, HE, HI⟩ := hrel
    have a0 := HI.out.b1.cell 0 (u := .bool s1) rfl
    have a1 := HI.out.b1.cell 1 (u := .slice A1 n1 c1) rfl
    by_cases hm0 : m = 0
    · subst hm0
      have x0 := HI.out.res.cell 0 (u := .bool false) rfl
      have x1 := HI.out.res.cell 1 (u := .slice none 0 0) rfl
      have f0 := HI.out.res.frozen 0
      have f1 := HI.out.res.frozen 1
      go_wp2
      have hI := HI.out
      have hpk : 2 ^ p = Z := by rw [← HZ.out]; have := HE.out.1; rw [Nat.mul_zero, Nat.add_zero] at this; rw [this]
      refine bodyPost_ret (res_c rfl _ rfl (aggN.load (hI.res.set2 _ _))) rfl ⟨_, rfl, ?_, ?_⟩
      · rw [← hpk]; exact hI.r1.store hI.res (noInt_two' _ _ _ _) (Chg.at2 _ _ _ _)
      · exact Chg.owned hI.new (Chg.at2 _ _ _ _) (fun k e => by omega)
    · have hgt : (0 : Int) < (m : Int) := by omega
      have b0 := HI.out.b2.cell 0 (u := .bool s2) rfl
      have b1 := HI.out.b2.cell 1 (u := .slice A2 n2 c2) rfl
      have htk : t ≤ 100000 := by have := HE.out.2 (by omega); omega
      have hpk : p ≤ 100000 := by have := HE.out.1; omega
      obtain ⟨h, hh⟩ : ∃ h, m / 2 = h := ⟨_, rfl⟩
      have hhi : (m : Int) / 2 = (h : Int) := by omega
      by_cases hodd : m % 2 = 1
      · have hoi : ((m : Int) % 2 == 1) = true := by simp; omega
        have HM : Hid (m = 2 * h + 1) := by show _ = _; omega
        have hhm : h < m := by omega
        clear hh hodd
        go_wp2_with fail
        refine (rmul_any _ _ _ _ wr HI.out.r1 HI.out.r2 (pow_big hpk) (pow_big htk)).mono ?_
        rintro e w6 ⟨v6, rfl, ⟨s6, A6, n6, c6, rfl, hs6, hm6⟩, hn6⟩
        have hI := HI.out
        have d0 := (hI.b1.chg hn6 (fun h => h)).cell 0 (u := .bool s1) rfl
        have d1 := (hI.b1.chg hn6 (fun h => h)).cell 1 (u := .slice A1 n1 c1) rfl
        have f0 := (hI.b1.chg hn6 (fun h => h)).frozen 0
        have f1 := (hI.b1.chg hn6 (fun h => h)).frozen 1
        have e0 := (hI.b2.chg hn6 (fun h => h)).cell 0 (u := .bool s2) rfl
        have e1 := (hI.b2.chg hn6 (fun h => h)).cell 1 (u := .slice A2 n2 c2) rfl
        have hne : g2 ≠ g1 := by omega
        have hPw : PwI w ((w6.setCell ⟨g1, 0, none⟩ (.bool s6)).setCell ⟨g1, 1, none⟩ (.slice A6 n6 c6)) w.heap.size g1 g2 s6 A6 n6 c6 s2 A2 n2 c2 (2 ^ (p + t)) (2 ^ t) := by
          have hcs : Chg (fun k => k = g1) w6 ((w6.setCell ⟨g1, 0, none⟩ (.bool s6)).setCell ⟨g1, 1, none⟩ (.slice A6 n6 c6)) := Chg.at2 _ _ _ _
          have hbb := hI.b1.chg hn6 (fun h => h)
          refine ⟨(hI.res.chg hn6 (fun h => h)).chg hcs (by omega), hbb.set2 _ _, (hI.b2.chg hn6 (fun h => h)).chg hcs (by omega), ?_, (hI.r2.new hn6).store hbb (noInt_two' _ _ _ _) hcs, Chg.owned (hI.new.new hn6) hcs (fun k e => by omega)⟩
          refine RN.store ?_ hbb (noInt_two' _ _ _ _) hcs
          rw [Nat.pow_add, Int.natCast_mul]
          exact ⟨s6, A6, n6, c6, rfl, hs6, hm6⟩
        have HP6 := Lib.hid hPw
        clear hI hn6 hs6 hm6 hPw a0 a1 b0 b1
        go_wp2_with fail
        generalize ((w6.setCell ⟨g1, 0, none⟩ (.bool s6)).setCell ⟨g1, 1, none⟩ (.slice A6 n6 c6)) = W7 at *
        refine (rmul_any _ _ _ _ W7 HP6.out.r2 HP6.out.r2 (pow_big htk) (pow_big htk)).mono ?_
        rintro e w8 ⟨v8, rfl, ⟨s8, A8, n8, c8, rfl, hs8, hm8⟩, hn8⟩
        have hI := HP6.out
        have hbb := hI.b2.chg hn8 (fun h => h)
        have d0 := hbb.cell 0 (u := .bool s2) rfl
        have d1 := hbb.cell 1 (u := .slice A2 n2 c2) rfl
        have f0 := hbb.frozen 0
        have f1 := hbb.frozen 1
        have hPw : PwI w ((w8.setCell ⟨g2, 0, none⟩ (.bool s8)).setCell ⟨g2, 1, none⟩ (.slice A8 n8 c8)) w.heap.size g1 g2 s6 A6 n6 c6 s8 A8 n8 c8 (2 ^ (p + t)) (2 ^ (t + t)) := by
          have hcs : Chg (fun k => k = g2) w8 ((w8.setCell ⟨g2, 0, none⟩ (.bool s8)).setCell ⟨g2, 1, none⟩ (.slice A8 n8 c8)) := Chg.at2 _ _ _ _
          refine ⟨(hI.res.chg hn8 (fun h => h)).chg hcs (by omega), (hI.b1.chg hn8 (fun h => h)).chg hcs (by omega), hbb.set2 _ _, (hI.r1.new hn8).store hbb (noInt_two' _ _ _ _) hcs, ?_, Chg.owned (hI.new.new hn8) hcs (fun k e => by omega)⟩
          refine RN.store ?_ hbb (noInt_two' _ _ _ _) hcs
          rw [Nat.pow_add, Int.natCast_mul]
          exact ⟨s8, A8, n8, c8, rfl, hs8, hm8⟩
        have HP8 := Lib.hid hPw
        clear hI hn8 hs8 hm8 hPw hbb
        go_wp2
        go_roundw
        case rel =>
          refine ⟨h, p + t, t + t, s6, A6, n6, c6, s8, A8, n8, c8, rfl, by omega, ⟨?_, fun hp => ?_⟩, HP8.out⟩
          · have h1 := HE.out.1
            rw [HM.out, Nat.mul_add, Nat.mul_one, Nat.mul_left_comm] at h1
            rw [Nat.add_mul]
            omega
          · have h1 := HE.out.1
            rw [HM.out, Nat.mul_add, Nat.mul_one, Nat.mul_left_comm] at h1
            have : t * 1 ≤ t * h := Nat.mul_le_mul_left _ hp
            omega
        case measure => simp [intOf]; omega
      · have hoi : ((m : Int) % 2 == 1) = false := by simp; omega
        have HM : Hid (m = 2 * h) := by show _ = _; omega
        have hhm : h < m := by omega
        clear hh hodd
        go_wp2_with fail
        refine (rmul_any _ _ _ _ wr HI.out.r2 HI.out.r2 (pow_big htk) (pow_big htk)).mono ?_
        rintro e w8 ⟨v8, rfl, ⟨s8, A8, n8, c8, rfl, hs8, hm8⟩, hn8⟩
        have hI := HI.out
        have hbb := hI.b2.chg hn8 (fun h => h)
        have d0 := hbb.cell 0 (u := .bool s2) rfl
        have d1 := hbb.cell 1 (u := .slice A2 n2 c2) rfl
        have f0 := hbb.frozen 0
        have f1 := hbb.frozen 1
        have hPw : PwI w ((w8.setCell ⟨g2, 0, none⟩ (.bool s8)).setCell ⟨g2, 1, none⟩ (.slice A8 n8 c8)) w.heap.size g1 g2 s1 A1 n1 c1 s8 A8 n8 c8 (2 ^ p) (2 ^ (t + t)) := by
          have hcs : Chg (fun k => k = g2) w8 ((w8.setCell ⟨g2, 0, none⟩ (.bool s8)).setCell ⟨g2, 1, none⟩ (.slice A8 n8 c8)) := Chg.at2 _ _ _ _
          refine ⟨(hI.res.chg hn8 (fun h => h)).chg hcs (by omega), (hI.b1.chg hn8 (fun h => h)).chg hcs (by omega), hbb.set2 _ _, (hI.r1.new hn8).store hbb (noInt_two' _ _ _ _) hcs, ?_, Chg.owned (hI.new.new hn8) hcs (fun k e => by omega)⟩
          refine RN.store ?_ hbb (noInt_two' _ _ _ _) hcs
          rw [Nat.pow_add, Int.natCast_mul]
          exact ⟨s8, A8, n8, c8, rfl, hs8, hm8⟩
        have HP8 := Lib.hid hPw
        clear hI hn8 hs8 hm8 hPw hbb a0 a1 b0 b1
        go_wp2
        go_roundw
        case rel =>
          refine ⟨h, p, t + t, s1, A1, n1, c1, s8, A8, n8, c8, rfl, by omega, ⟨?_, fun hp => ?_⟩, HP8.out⟩
          · have h1 := HE.out.1
            rw [HM.out, Nat.mul_left_comm] at h1
            rw [Nat.add_mul]
            omega
          · have h1 := HE.out.1
            rw [HM.out, Nat.mul_left_comm] at h1
            have : t * 1 ≤ t * h := Nat.mul_le_mul_left _ hp
            omega
        case measure => simp [intOf]; omega
end Go.Proofs.YtmpkaimhjdkheaaGreatDoor

namespace Go.Proofs.YtmpkaimhjdkheaaGreatDoor
set_option linter.unusedVariables false
open Go.RowKit Go.Mem Go.Dig

theorem val_drop_le (B : Nat) (hB : 1 ≤ B) (l : List Nat) (k : Nat) : val B (l.drop k) ≤ val B l := by
  induction k with
  | zero => rw [List.drop_zero]; exact Nat.le_refl _
  | succ k ih =>
    refine Nat.le_trans ?_ ih
    rw [val_drop_dg B l k]
    exact Nat.le_trans (Nat.le_mul_of_pos_left _ hB) (Nat.le_add_left _ _)

end Go.Proofs.YtmpkaimhjdkheaaGreatDoor

namespace Go.Proofs.YtmpkaimhjdkheaaGreatDoor
set_option linter.unusedVariables false
open Go.RowKit Go.Mem Go.Dig

/-! ### the contracts with hidden facts -/
theorem of_h (z : Int) (W : World) (h1 : -9223372036854775808 ≤ z) (h2 : z ≤ 9223372036854775807) :
    Calls Tryz.prog 7 #[.int .i64 z] W fun e w' => ∃ s A n c, e = .returned (.agg #[.bool s, .slice A n c]) ∧ Hid (RN w' (.agg #[.bool s, .slice A n c]) z ∧ New W w') :=
  (of_any z W h1 h2).mono fun e w' ⟨v, h1, ⟨s, A, n, c, h2, h3, h4⟩, h5⟩ => ⟨s, A, n, c, by rw [h1, h2], ⟨s, A, n, c, rfl, h3, h4⟩, h5⟩
theorem rmul_h (v v' : Value) (x y : Int) (W : World) (hx : RN W v x) (hy : RN W v' y) (bx : x.natAbs < 2 ^ 1000000) (bY : y.natAbs < 2 ^ 1000000) :
    Calls Tryz.prog 10 #[v, v'] W fun e w' => ∃ s A n c, e = .returned (.agg #[.bool s, .slice A n c]) ∧ Hid (RN w' (.agg #[.bool s, .slice A n c]) (x * y) ∧ New W w') :=
  (rmul_any v v' x y W hx hy bx bY).mono fun e w' ⟨v, h1, ⟨s, A, n, c, h2, h3, h4⟩, h5⟩ => ⟨s, A, n, c, by rw [h1, h2], ⟨s, A, n, c, rfl, h3, h4⟩, h5⟩
theorem radd_h (v v' : Value) (x y : Int) (W : World) (hx : RN W v x) (hy : RN W v' y) (bx : x.natAbs < 2 ^ 1000000) (bY : y.natAbs < 2 ^ 1000000) :
    Calls Tryz.prog 19 #[v, v'] W fun e w' => ∃ s A n c, e = .returned (.agg #[.bool s, .slice A n c]) ∧ Hid (RN w' (.agg #[.bool s, .slice A n c]) (x + y) ∧ New W w') :=
  (radd_any v v' x y W hx hy bx bY).mono fun e w' ⟨v, h1, ⟨s, A, n, c, h2, h3, h4⟩, h5⟩ => ⟨s, A, n, c, by rw [h1, h2], ⟨s, A, n, c, rfl, h3, h4⟩, h5⟩
theorem power_h (k : Nat) (hk : k ≤ 100000) (W : World) :
    Calls Tryz.prog 9 #[.int .i64 k] W fun e w' => ∃ s A n c, e = .returned (.agg #[.bool s, .slice A n c]) ∧ Hid (RN w' (.agg #[.bool s, .slice A n c]) ((2 ^ k : Nat) : Int) ∧ New W w') :=
  (power_any k hk W).mono fun e w' ⟨v, h1, ⟨s, A, n, c, h2, h3, h4⟩, h5⟩ => ⟨s, A, n, c, by rw [h1, h2], ⟨s, A, n, c, rfl, h3, h4⟩, h5⟩

theorem pow_le2 (a b : Nat) (h : a ≤ b) : 2 ^ a ≤ 2 ^ b := Nat.pow_le_pow_right (by omega) h
theorem small_big {z : Int} (h1 : -18446744073709551616 < z) (h2 : z < 18446744073709551616) : z.natAbs < 2 ^ 1000000 :=
  Nat.lt_of_lt_of_le (show z.natAbs < 2 ^ 64 by omega) (pow_le2 64 1000000 (by decide))

end Go.Proofs.YtmpkaimhjdkheaaGreatDoor

namespace Go.Proofs.YtmpkaimhjdkheaaGreatDoor
set_option linter.unusedVariables false
open Go.RowKit Go.Mem

def pickI (l : List Int) (i : Nat) (most : Int) : Int := match l[i]? with
  | some z => aroundI z most
  | none => 0
theorem pickI_range (l : List Int) (i : Nat) (most : Int) (h : 1 ≤ most) : 0 ≤ pickI l i most ∧ pickI l i most < most := by
  unfold pickI
  split
  · exact aroundI_range _ _ h
  · omega

set_option maxHeartbeats 1000000 in
theorem pick01_any (A : Option Addr) (n c : Nat) (l : List Int) (hl : ∀ z ∈ l, -9223372036854775808 ≤ z ∧ z ≤ 9223372036854775807) (i : Nat) (most : Int) (hm : 1 ≤ most) (hm2 : most ≤ 1000000000) (w : World) (hr : Rd w A n (is l)) (hn : n ≤ 9223372036854775807) :
    Calls Tryz.prog 8 #[.slice A n c, .int .i64 i, .int .i64 most] w fun e w' => e = .returned (.int .i64 (pickI l i most)) ∧ w = w' := by
  have hll : l.length = n := by have := hr.len; rwa [is_length] at this
  have hng : decide ((i : Int) < 0) = false := by simp
  by_cases h1 : i < n
  · obtain ⟨ad, u, rfl, hu, hcu⟩ := hr.at_ h1
    obtain ⟨z, hz, rfl⟩ := is_at hu
    have hzb := hl z (List.mem_of_getElem? hz)
    have hp : pickI l i most = aroundI z most := by unfold pickI; rw [hz]
    rw [hp]
    have hlt : decide ((n : Int) ≤ (i : Int)) = false := by simp; omega
    have hlt' : decide (n ≤ i) = false := by simp; omega
    have HZ := Lib.hid hzb
    clear hr hl hu hz hll hzb hp
    go_enter Tryz.func8, Tryz.ntmps8
    go_wp2_with fail
    refine (around_any z most w HZ.out.1 HZ.out.2 hm (by omega)).mono ?_
    rintro e w1 ⟨rfl, rfl⟩
    go_wp2
    go_ret
    exact ⟨rfl, rfl⟩
  · have hp : pickI l i most = 0 := by unfold pickI; rw [List.getElem?_eq_none (by omega)]
    rw [hp]
    have hlt : decide ((n : Int) ≤ (i : Int)) = true := by simp; omega
    have hlt' : decide (n ≤ i) = true := by simp; omega
    clear hr hl hll hp
    go_enter Tryz.func8, Tryz.ntmps8
    go_wp2
    go_ret
    exact ⟨rfl, rfl⟩
end Go.Proofs.YtmpkaimhjdkheaaGreatDoor

namespace Go.Proofs.YtmpkaimhjdkheaaGreatDoor
set_option linter.unusedVariables false
open Go.RowKit Go.Mem Go.Dig

/-- A summand of Number. -/
def termI (n : Nat) : Int := ((2 ^ (32 * (n % 7) + n / 7 % 5 * 8) : Nat) : Int) * ((n / 35 % 9 : Nat) - 4) + ((n / 315 % 5 : Nat) - 2)
def numS (l : List Int) (at_ : Nat) : Nat → Int
  | 0 => 0
  | i + 1 => numS l at_ i + termI (pickI l (at_ + 1 + i) 1000000).toNat
/-- refuterref03.Number on plain numbers. -/
def numI (l : List Int) (at_ : Nat) : Int := numS l at_ (1 + (pickI l at_ 5).toNat)
theorem pow_bnd (n : Nat) : 2 ^ (32 * (n % 7) + n / 7 % 5 * 8) ≤ 2 ^ 224 := Nat.pow_le_pow_right (by omega) (by omega)
theorem abs_mul_small {P : Nat} {x : Int} (hP : P ≤ 2 ^ 224) (h1 : -4 ≤ x) (h2 : x ≤ 4) : ((P : Int) * x).natAbs ≤ 2 ^ 226 := by
  rw [Int.natAbs_mul]
  have : x.natAbs ≤ 4 := by omega
  have e := Nat.mul_le_mul hP this
  have e2 : (2 : Nat) ^ 226 = 2 ^ 224 * 4 := by decide
  rw [e2]
  simpa using e
theorem termI_bnd (n : Nat) : (termI n).natAbs ≤ 2 ^ 227 := by
  unfold termI
  have h := abs_mul_small (x := ((n / 35 % 9 : Nat) : Int) - 4) (pow_bnd n) (by omega) (by omega)
  have h2 : (((n / 315 % 5 : Nat) : Int) - 2).natAbs ≤ 2 := by omega
  have e : (2 : Nat) ^ 227 = 2 ^ 226 + 2 ^ 226 := by decide
  have e2 : 2 ≤ (2 : Nat) ^ 226 := by decide
  generalize (((2 ^ (32 * (n % 7) + n / 7 % 5 * 8) : Nat) : Int) * (((n / 35 % 9 : Nat) : Int) - 4)) = u at *
  generalize (((n / 315 % 5 : Nat) : Int) - 2) = v at *
  rw [e]
  generalize (2 : Nat) ^ 226 = B at *
  omega
theorem numS_bnd (l : List Int) (at_ i : Nat) : (numS l at_ i).natAbs ≤ i * 2 ^ 227 := by
  induction i with
  | zero => simp [numS]
  | succ i ih =>
    have h := termI_bnd (pickI l (at_ + 1 + i) 1000000).toNat
    rw [numS]
    generalize termI (pickI l (at_ + 1 + i) 1000000).toNat = t at *
    generalize (2 : Nat) ^ 227 = B at *
    rw [Nat.add_mul, Nat.one_mul]
    omega
theorem numI_bnd (l : List Int) (at_ : Nat) : (numI l at_).natAbs < 2 ^ 230 := by
  have h := numS_bnd l at_ (1 + (pickI l at_ 5).toNat)
  have h2 := pickI_range l at_ 5 (by omega)
  have h3 : (1 + (pickI l at_ 5).toNat) * 2 ^ 227 ≤ 5 * 2 ^ 227 := Nat.mul_le_mul_right _ (by omega)
  have e : 5 * (2 : Nat) ^ 227 < 2 ^ 230 := by decide
  unfold numI
  omega
theorem big_of {z : Int} {k m : Nat} (h : z.natAbs ≤ 2 ^ k) (hk : k < m) : z.natAbs < 2 ^ m := Nat.lt_of_le_of_lt h (Nat.pow_lt_pow_right (by omega) hk)
theorem numS_big (l : List Int) (at_ i : Nat) (hi : i ≤ 8) : (numS l at_ i).natAbs < 2 ^ 1000000 := by
  have h := numS_bnd l at_ i
  have h2 : i * 2 ^ 227 ≤ 8 * 2 ^ 227 := Nat.mul_le_mul_right _ hi
  have e : 8 * (2 : Nat) ^ 227 = 2 ^ 230 := by decide
  exact big_of (k := 230) (m := 1000000) (by rw [← e]; exact Nat.le_trans h h2) (by decide)

/-- What Number's loop holds. -/
def NmW (w : World) (g4 g5 : Nat) (z : Int) (wr : World) : Prop :=
  ∃ s A n c, Blk wr g5 26 #[.bool s, .slice A n c] ∧ RN wr (.agg #[.bool s, .slice A n c]) z ∧ Blk wr g4 26 #[.bool false, .slice none 0 0] ∧ New w wr
theorem noInt2' (s : Bool) (A : Option Addr) (n c : Nat) : NoInt (#[Value.bool s, Value.slice A n c] : Array Value).toList := fun k z h => by simp at h
theorem NmW.put {w wr w6 : World} {g4 g5 : Nat} {z z2 : Int} (h : NmW w g4 g5 z wr) (hn : New wr w6) {s A n c} (h6 : RN w6 (.agg #[.bool s, .slice A n c]) z2) (hg : w.heap.size ≤ g5) (hne : g4 ≠ g5) :
    NmW w g4 g5 z2 ((w6.setCell ⟨g5, 0, none⟩ (.bool s)).setCell ⟨g5, 1, none⟩ (.slice A n c)) := by
  obtain ⟨s0, A0, n0, c0, h1, h2, h3, h4⟩ := h
  have hb := h1.chg hn (fun h => h)
  refine ⟨s, A, n, c, hb.set2 _ _, h6.store hb (noInt2' _ _ _ _) (Chg.at2 _ _ _ _), ((h3.chg hn (fun h => h)).far (p := ⟨g5, 0, none⟩) hne _).far (p := ⟨g5, 1, none⟩) hne _, Chg.owned (h4.new hn) (Chg.at2 _ _ _ _) (fun k e => by omega)⟩

set_option maxRecDepth 100000 in
set_option maxHeartbeats 4000000 in
theorem number_any (A : Option Addr) (n c : Nat) (l : List Int) (hl : ∀ z ∈ l, -9223372036854775808 ≤ z ∧ z ≤ 9223372036854775807) (at_ : Nat) (hat : at_ ≤ 1000) (w : World) (hr : Rd w A n (is l)) (hn : n ≤ 9223372036854775807) :
    Calls Tryz.prog 5 #[.slice A n c, .int .i64 (at_ : Int)] w fun e w' => ∃ s A n c, e = .returned (.agg #[.bool s, .slice A n c]) ∧ Hid (RN w' (.agg #[.bool s, .slice A n c]) (numI l at_) ∧ New w w') := by
  obtain ⟨r5, hr5⟩ : ∃ x, pickI l at_ 5 = x := ⟨_, rfl⟩
  have h5 := pickI_range l at_ 5 (by omega)
  rw [hr5] at h5
  obtain ⟨p5, rfl⟩ : ∃ p : Nat, r5 = p := ⟨r5.toNat, by omega⟩
  have hN : numI l at_ = numS l at_ (1 + p5) := by unfold numI; rw [hr5]; simp
  rw [hN]
  have hpk := fun (i : Nat) (most : Int) (h1 : 1 ≤ most) (h2 : most ≤ 1000000000) W (hn : New w W) => pick01_any A n c l hl i most h1 h2 W (hr.new hn) ‹_›
  have HP := Lib.hid (And.intro hpk hr5)
  clear hpk hr5 hr hl hN
  have hp5 : p5 ≤ 4 := by omega
  go_enter Tryz.func5, Tryz.ntmps5
  go_wp2_with fail
  refine Code.new2 ?_
  intro W hb4 hb5 hnW hzW
  obtain ⟨g4, hg4⟩ : ∃ x, w.heap.size = x := ⟨_, rfl⟩
  obtain ⟨g5, hg5⟩ : ∃ x, w.heap.size + 1 = x := ⟨_, rfl⟩
  rw [hg4] at hb4
  rw [hg5] at hb5
  have hS : NmW w g4 g5 0 W := ⟨_, _, _, _, hb5, RN.zero W, hb4, hnW⟩
  have HG := Lib.hid (And.intro hg4 hg5)
  have HS := Lib.hid hS
  simp only [hg5]
  simp only [hg4]
  clear hb4 hb5 hnW hzW hg4 hg5 hS
  go_loopw [6, 7, 8] (fun i _ _ wr => ∃ k : Nat, i = .int .i64 (k : Int) ∧ k ≤ 1 + p5 ∧ Hid (NmW w g4 g5 (numS l at_ k) wr)) (fun i _ _ _ => 1 + p5 - (intOf i).toNat)
  case atStart => exact ⟨0, rfl, by omega, HS.out⟩
  case round =>
    obtain ⟨k, rfl, hk, HI⟩ := hrel
    obtain ⟨wo, rfl⟩ : ∃ wo : World, wo = wr := ⟨_, rfl⟩
    obtain ⟨s0, A0, n0, c0, hb5, hrn, hb4, hnw⟩ := HI.out
    have k50 := hb5.cell 0 (u := .bool s0) rfl
    have k51 := hb5.cell 1 (u := .slice A0 n0 c0) rfl
    have hpk := HP.out.1 at_ 5 (by omega) (by omega) wo hnw
    rw [HP.out.2] at hpk
    have HPK := Lib.hid hpk
    have HX := Lib.hid (And.intro hb5 (And.intro hrn (And.intro hb4 hnw)))
    clear hb5 hrn hb4 hnw hpk
    by_cases hlt : k < 1 + p5
    · obtain ⟨j, hj⟩ : ∃ j, at_ + 1 + k = j := ⟨_, rfl⟩
      have hji : (at_ : Int) + 1 + (k : Int) = (j : Int) := by omega
      have hpk2 := HP.out.1 j 1000000 (by omega) (by omega) wo HX.out.2.2.2
      have hpr := pickI_range l j 1000000 (by omega)
      obtain ⟨m, hm⟩ : ∃ m : Nat, pickI l j 1000000 = m := ⟨(pickI l j 1000000).toNat, by omega⟩
      rw [hm] at hpk2 hpr
      have hz : numS l at_ (k + 1) = numS l at_ k + termI m := by rw [numS, hj, hm]; simp
      obtain ⟨a7, ha7⟩ : ∃ x, m % 7 = x := ⟨_, rfl⟩
      obtain ⟨q7, hq7⟩ : ∃ x, m / 7 = x := ⟨_, rfl⟩
      obtain ⟨b5, hb5⟩ : ∃ x, q7 % 5 = x := ⟨_, rfl⟩
      obtain ⟨pw, hpw⟩ : ∃ x, 32 * a7 + b5 * 8 = x := ⟨_, rfl⟩
      obtain ⟨q35, hq35⟩ : ∃ x, m / 35 = x := ⟨_, rfl⟩
      obtain ⟨c9, hc9⟩ : ∃ x, q35 % 9 = x := ⟨_, rfl⟩
      obtain ⟨q315, hq315⟩ : ∃ x, m / 315 = x := ⟨_, rfl⟩
      obtain ⟨d5, hd5⟩ : ∃ x, q315 % 5 = x := ⟨_, rfl⟩
      obtain ⟨e4, he4⟩ : ∃ x : Int, (c9 : Int) - 4 = x := ⟨_, rfl⟩
      obtain ⟨e2, he2⟩ : ∃ x : Int, (d5 : Int) - 2 = x := ⟨_, rfl⟩
      have htm : termI m = ((2 ^ pw : Nat) : Int) * e4 + e2 := by
        unfold termI
        rw [ha7, hq7, hb5, hpw, hq35, hc9, hq315, hd5, he4, he2]
      have hpwb : pw ≤ 224 := by omega
      have hmb : m < 1000000 := by omega
      have he4b : -4 ≤ e4 ∧ e4 ≤ 4 := by omega
      have he2b : -2 ≤ e2 ∧ e2 ≤ 2 := by omega
      have i1 : (m : Int) % 7 = (a7 : Int) := by omega
      have i2 : (m : Int) / 7 = (q7 : Int) := by omega
      have i3 : (q7 : Int) % 5 = (b5 : Int) := by omega
      have i4 : 32 * (a7 : Int) + (b5 : Int) * 8 = (pw : Int) := by omega
      have i5 : (m : Int) / 35 = (q35 : Int) := by omega
      have i6 : (q35 : Int) % 9 = (c9 : Int) := by omega
      have i7 : (m : Int) / 315 = (q315 : Int) := by omega
      have i8 : (q315 : Int) % 5 = (d5 : Int) := by omega
      have ab : a7 ≤ 6 ∧ b5 ≤ 4 ∧ c9 ≤ 8 ∧ d5 ≤ 4 ∧ q7 ≤ 1000000 ∧ q35 ≤ 1000000 ∧ q315 ≤ 1000000 := by omega
      have ab1 : a7 ≤ 6 := ab.1
      have ab2 : b5 ≤ 4 := ab.2.1
      have ab3 : c9 ≤ 8 := ab.2.2.1
      have HZ := Lib.hid (And.intro hz (And.intro htm (And.intro hpk2 (And.intro i7 (And.intro i8 he2)))))
      clear hz htm hpk2 hpr hm ha7 hq7 hb5 hpw hq35 hc9 hq315 hd5 he2 i7 i8 hj ab
      go_wp2_with fail
      refine HPK.out.mono ?_
      rintro e w1 ⟨rfl, rfl⟩
      go_wp2_with fail
      refine HZ.out.2.2.1.mono ?_
      rintro e w1 ⟨rfl, rfl⟩
      go_wp2_with fail
      refine (power_h pw (by omega) wo).mono ?_
      rintro e w2 ⟨s2, A2, n2, c2, rfl, H2⟩
      go_wp2_with fail
      refine (of_h e4 w2 (by omega) (by omega)).mono ?_
      rintro e w3 ⟨s3, A3, n3, c3, rfl, H3⟩
      go_wp2_with fail
      refine (rmul_h _ _ _ _ w3 (H2.out.1.new H3.out.2) H3.out.1 (pow_big (by omega)) (small_big (by omega) (by omega))).mono ?_
      rintro e w4 ⟨s4, A4, n4, c4, rfl, H4⟩
      clear i1 i2 i3 i4 i5 i6 he4
      go_upto_region 7 with fail
      refine Code.new1 ?_
      intro W5 hb8 hn5 hz5
      obtain ⟨g8, hg8⟩ : ∃ x, w4.heap.size = x := ⟨_, rfl⟩
      rw [hg8] at hb8
      simp only [hg8]
      have hn05 : New wo W5 := ((H2.out.2.new H3.out.2).new H4.out.2).new hn5
      have hc80 := hb8.cell 0 (u := .bool s4) rfl
      have hc81 := hb8.cell 1 (u := .slice A4 n4 c4) rfl
      have hb55 := HX.out.1.chg hn05 (fun h => h)
      have hc50 := hb55.cell 0 (u := .bool s0) rfl
      have hc51 := hb55.cell 1 (u := .slice A0 n0 c0) rfl
      have hf50 := hb55.frozen 0
      have hf51 := hb55.frozen 1
      have hg58 : g5 < g8 := by
        have h1 := (HX.out.1.chg ((H2.out.2.new H3.out.2).new H4.out.2) (fun h => h)).lt
        omega
      obtain ⟨hz, htm, _, i7, i8, he2⟩ := HZ.out
      have j7 : (m : Int).tdiv 315 = (q315 : Int) := by rw [Int.tdiv_eq_ediv_of_nonneg (by omega), i7]
      have j8 : (q315 : Int).tmod 5 = (d5 : Int) := by rw [Int.tmod_eq_emod_of_nonneg (by omega), i8]
      have j10 : IntKind.i64.wrap (q315 : Int) = (q315 : Int) := IntWalk.i64_in _ (by omega)
      have j9 : IntKind.i64.wrap ((d5 : Int) - 2) = e2 := by rw [he2]; exact IntWalk.i64_in _ (by omega)
      have hcof : ∀ W', New W5 W' → Calls Tryz.prog 7 #[.int .i64 e2] W' fun e w' => ∃ s A n c, e = .returned (.agg #[.bool s, .slice A n c]) ∧ Hid (RN w' (.agg #[.bool s, .slice A n c]) e2) ∧ Hid (New W5 w') := fun W' h =>
        (of_h e2 W' (by omega) (by omega)).mono fun e w' ⟨s, A, n, c, h1, h2⟩ => ⟨s, A, n, c, h1, h2.out.1, h.new h2.out.2⟩
      have hca1 : ∀ W' v, New W5 W' → RN W' v e2 → Calls Tryz.prog 19 #[.agg #[.bool s4, .slice A4 n4 c4], v] W' fun e w' => ∃ s A n c, e = .returned (.agg #[.bool s, .slice A n c]) ∧ Hid (RN w' (.agg #[.bool s, .slice A n c]) (termI m)) ∧ Hid (New W5 w') := fun W' v h hv => by
        have hpb := pow_big (t := pw) (by omega)
        have := radd_h _ v _ _ W' ((H4.out.1.new hn5).new h) hv (big_of (k := 226) (m := 1000000) (abs_mul_small (Nat.pow_le_pow_right (by omega) hpwb) he4b.1 he4b.2) (by decide)) (small_big (by omega) (by omega))
        rw [← htm] at this
        exact this.mono fun e w' ⟨s, A, n, c, h1, h2⟩ => ⟨s, A, n, c, h1, h2.out.1, h.new h2.out.2⟩
      have hca2 : ∀ W' v, New W5 W' → RN W' v (termI m) → Calls Tryz.prog 19 #[.agg #[.bool s0, .slice A0 n0 c0], v] W' fun e w' => ∃ s A n c, e = .returned (.agg #[.bool s, .slice A n c]) ∧ Hid (RN w' (.agg #[.bool s, .slice A n c]) (numS l at_ (k + 1))) ∧ Hid (New W5 w') := fun W' v h hv => by
        have := radd_h _ v _ _ W' ((HX.out.2.1.new hn05).new h) hv (numS_big l at_ k (by omega)) (big_of (k := 227) (m := 1000000) (termI_bnd m) (by decide))
        rw [← hz] at this
        exact this.mono fun e w' ⟨s, A, n, c, h1, h2⟩ => ⟨s, A, n, c, h1, h2.out.1, h.new h2.out.2⟩
      have HCA := Lib.hid (And.intro hcof (And.intro hca1 hca2))
      have HBN := Lib.hid (And.intro hb55 (And.intro hb8 hn05))
      clear hz htm i7 i8 he2 hcof hca1 hca2 hb55 hb8 hn05 hn5 hz5 hg8 k50 k51 HPK HZ
      go_region_with
        (first
          | (go_at_call 7; (with_reducible refine (HCA.out.1 _ ?_).mono ?_); exact (Chg.refl _ _).drew; rintro e w6 ⟨s6, A6, n6, c6, rfl, HR6, HN6⟩; have hd50 := HN6.out.cell hc50 (fun h => h); have hd51 := HN6.out.cell hc51 (fun h => h); have hd80 := HN6.out.cell hc80 (fun h => h); have hd81 := HN6.out.cell hc81 (fun h => h))
          | (go_at_call 19; (with_reducible refine (HCA.out.2.1 _ _ HN6.out HR6.out).mono ?_); rintro e w7 ⟨s7, A7, n7, c7, rfl, HR7, HN7⟩; have he50 := HN7.out.cell hc50 (fun h => h); have he51 := HN7.out.cell hc51 (fun h => h); have he80 := HN7.out.cell hc80 (fun h => h); have he81 := HN7.out.cell hc81 (fun h => h))
          | (go_at_call 19; (with_reducible refine (HCA.out.2.2 _ _ HN7.out HR7.out).mono ?_); rintro e w8 ⟨s8, A8, n8, c8, rfl, HR8, HN8⟩; have hi50 := HN8.out.cell hc50 (fun h => h); have hi51 := HN8.out.cell hc51 (fun h => h); have hi80 := HN8.out.cell hc80 (fun h => h); have hi81 := HN8.out.cell hc81 (fun h => h); have hj50 := (HBN.out.1.chg HN8.out (fun h => h)).frozen 0; have hj51 := (HBN.out.1.chg HN8.out (fun h => h)).frozen 1))
      all_goals
        clear hc50 hc51 hc80 hc81 hd50 hd51 hd80 hd81 he50 he51 he80 he81 hi50 hi51 hi80 hi81 hf50 hf51
        go_wp2
        go_roundw
        case rel => exact ⟨k + 1, by go_num, by omega, NmW.put HI.out (HBN.out.2.2.new HN8.out) HR8.out (by have := HG.out; omega) (by have := HG.out; omega)⟩
        case measure => simp [intOf]; omega
    · obtain rfl : 1 + p5 = k := by omega
      have hge : decide ((((1 + p5 : Nat)) : Int) < 1 + (p5 : Int)) = false := by simp
      have hb4 := HX.out.2.2.1
      have k40 := hb4.cell 0 rfl
      have k41 := hb4.cell 1 rfl
      have f40 := hb4.frozen 0
      have f41 := hb4.frozen 1
      clear hb4
      go_wp2_with fail
      refine HPK.out.mono ?_
      rintro e w1 ⟨rfl, rfl⟩
      go_wp2
      obtain ⟨hb5, hrn, hb4, hnw⟩ := HX.out
      refine bodyPost_ret (res_c rfl _ rfl (aggN.load (hb4.set2 _ _))) rfl ⟨s0, A0, n0, c0, rfl, hrn.store hb4 (noInt2' _ _ _ _) (Chg.at2 _ _ _ _), ?_⟩
      exact Chg.owned hnw (Chg.at2 _ _ _ _) (fun k e => by have := HG.out; omega)
end Go.Proofs.YtmpkaimhjdkheaaGreatDoor

namespace Go.Proofs.YtmpkaimhjdkheaaGreatDoor
open Go.RowKit Go.Shelf Go.Mem Go.Pure

def orderL : List UInt8 := [111, 114, 100, 101, 114]
/-- What a round mixes into a half. -/
def partN (seed : Int) (h : Nat) (i r : Nat) : Nat := (sumI orderL [wrap64 seed, (i : Int), (r : Int)]).toNat % 2 ^ h
theorem partN_lt (seed : Int) (h i r : Nat) : partN seed h i r < 2 ^ h := Nat.mod_lt _ (Nat.pow_pos (by omega))

set_option maxHeartbeats 1000000 in
theorem rounds_any (w : World) : Calls Tryz.prog 115 #[] w fun e w' => e = .returned (.agg #[.int .i64 0, .int .i64 1, .int .i64 2, .int .i64 3]) ∧ New w w' := by
  go_enter Tryz.func115, Tryz.ntmps115
  go_wp2
  refine bodyPost_ret (results_cell_row rfl _ _ w.heap.size _ _ (0, 0) _ rfl (heap_alloc_new _ _) Tryz.underlying164 rfl (by kernel_rfl)) rfl ?_
  exact ⟨rfl, (Chg.refl _ w).alloc _⟩

/-- h is the half for n numbers. -/
def IsHalf (n h : Nat) : Prop := 1 ≤ h ∧ n ≤ 4 ^ h ∧ ∀ j, 1 ≤ j → j < h → 4 ^ j < n
theorem IsHalf.le {n h : Nat} (H : IsHalf n h) (hn : n ≤ 1099511627776) : h ≤ 20 := by
  rcases Nat.lt_or_ge 20 h with h1 | h1
  · have := H.2.2 20 (by omega) h1
    omega
  · exact h1
theorem IsHalf.uniq {n h g : Nat} (H : IsHalf n h) (G : IsHalf n g) : h = g := by
  rcases Nat.lt_trichotomy h g with h1 | h1 | h1
  · have := G.2.2 h H.1 h1; have := H.2.1; omega
  · exact h1
  · have := H.2.2 g G.1 h1; have := G.2.1; omega
theorem four_pow (h : Nat) : 4 ^ h = 2 ^ (2 * h) := by rw [Nat.pow_mul]

set_option maxHeartbeats 1000000 in
theorem newMixer_any (seed : Int) (n : Nat) (hn : n ≤ 1099511627776) (w : World) : Calls Tryz.prog 97 #[.int .u64 seed, .int .i64 n] w fun e w' => ∃ h : Nat, e = .returned (.agg #[.int .u64 seed, .int .i64 h]) ∧ IsHalf n h ∧ New w w' := by
  go_enter Tryz.func97, Tryz.ntmps97
  go_wp2
  go_loopw [5] (fun i wr => ∃ h : Nat, 1 ≤ h ∧ h ≤ 20 ∧ i = .int .i64 h ∧ (∀ j, 1 ≤ j → j < h → 4 ^ j < n) ∧ wr = w.alloc (.cells #[.int .u64 0, .int .i64 0] 142)) (fun i _ => 21 - (intOf i).toNat)
  case atStart => exact ⟨1, by omega, by omega, rfl, fun j h1 h2 => by omega, rfl⟩
  case round =>
    obtain ⟨h, h1, h20, rfl, hj, rfl⟩ := hrel
    have HJ := Lib.hid hj
    clear hj
    obtain ⟨q, hq⟩ : ∃ q, 4 ^ h = q := ⟨_, rfl⟩
    have hq2 : 2 ^ (2 * h) = q := by rw [← four_pow, hq]
    have hqb : q ≤ 1099511627776 := by rw [← hq]; exact Nat.le_trans (Nat.pow_le_pow_right (by omega) h20) (by decide)
    have hwq : wrap64 (2 ^ (2 * h)) = (q : Int) := by
      have e : (2 : Int) ^ (2 * h) = ((2 ^ (2 * h) : Nat) : Int) := by simp
      rw [e, hq2]
      unfold wrap64
      omega
    have HQ := Lib.hid hq
    clear hq hq2
    by_cases hlt : q < n
    · have hlti : (q : Int) < (n : Int) := by omega
      have hh19 : h ≤ 19 := by
        rcases Nat.lt_or_ge 19 h with g | g
        · obtain rfl : h = 20 := by omega
          have := HQ.out
          omega
        · exact g
      go_wp2
      go_roundw
      case rel => exact ⟨h + 1, by omega, by omega, by go_num, fun j h1 h2 => by
        rcases Nat.lt_or_ge j h with g | g
        · exact HJ.out j h1 g
        · obtain rfl : j = h := by omega
          rw [HQ.out]; exact hlt, trivial⟩
      case measure => simp [intOf]; omega
    · have hlti : decide ((q : Int) < (n : Int)) = false := by simp; omega
      go_wp2
      refine bodyPost_ret (results_cell_row rfl _ _ w.heap.size _ _ (0, 0) _ rfl (heap_alloc_new _ _) Tryz.underlying142 rfl (by kernel_rfl)) rfl ?_
      exact ⟨h, rfl, ⟨h1, by rw [HQ.out]; omega, HJ.out⟩, (Chg.refl _ w).alloc _⟩

theorem wrapEq (x : Int) : IntKind.i64.wrap x = wrap64 x := by rw [IntKind.wrap_i64]; unfold wrap64; omega

theorem mask_eq {h : Nat} (hh : h ≤ 20) : IntKind.u64.wrap (IntKind.u64.wrap (2 ^ h) - 1) = ((2 ^ h - 1 : Nat) : Int) := by
  have h1 : 2 ^ h ≤ 1048576 := Nat.le_trans (Nat.pow_le_pow_right (by omega) hh) (by decide)
  have h0 : 0 < 2 ^ h := Nat.pow_pos (by omega)
  have e : (2 : Int) ^ h = ((2 ^ h : Nat) : Int) := by simp
  rw [e, IntKind.wrap_u64, IntKind.wrap_u64]
  omega
theorem part_eq {seed : Int} {i r S h : Nat} (hS : (S : Int) = sumI orderL [wrap64 seed, (i : Int), (r : Int)]) (hlt : S < 18446744073709551616) (hh : h ≤ 20) :
    wrap64 (bits .and .u64 (S : Int) (IntKind.u64.wrap (IntKind.u64.wrap (2 ^ h) - 1))) = (partN seed h i r : Int) := by
  have h1 : 2 ^ h ≤ 1048576 := Nat.le_trans (Nat.pow_le_pow_right (by omega) hh) (by decide)
  rw [mask_eq hh, u64_and_nat _ _ hlt (by omega), Nat.and_two_pow_sub_one_eq_mod]
  unfold partN
  rw [← hS, Int.toNat_natCast]
  have h0 : 0 < 2 ^ h := Nat.pow_pos (by omega)
  have := Nat.mod_lt S h0
  unfold wrap64
  omega

set_option maxHeartbeats 2000000 in
theorem part_any (seed : Int) (h : Nat) (hh : h ≤ 20) (i r : Nat) (w : World) : Calls Tryz.prog 116 #[.agg #[.int .u64 seed, .int .i64 h], .int .i64 i, .int .i64 r] w fun e w' => e = .returned (.int .i64 (partN seed h i r)) ∧ New w w' := by
  go_enter Tryz.func116, Tryz.ntmps116
  go_wp2_with fail
  have hsum := fun (W : World) (hr : Rd W (some ⟨w.heap.size + 1, 0, none⟩) 3 (is [IntKind.i64.wrap seed, (i : Int), (r : Int)])) (hW : New w W) (hb : W.cell? ⟨w.heap.size, 1, none⟩ = some (.int .i64 h)) =>
    (sum_any ⟨#[111, 114, 100, 101, 114]⟩ (by decide) _ 3 3 [IntKind.i64.wrap seed, (i : Int), (r : Int)] W hr (by omega)).mono (R' := fun e w' => ∃ S : Nat, e = .returned (.int .u64 (S : Int)) ∧ Hid ((S : Int) = sumI orderL [wrap64 seed, (i : Int), (r : Int)]) ∧ S < 18446744073709551616 ∧ Hid (New w w') ∧ w'.cell? ⟨w.heap.size, 1, none⟩ = some (.int .i64 h)) fun e w' ⟨h1, h2⟩ => by
      have hrg := sumI_range' orderL [wrap64 seed, (i : Int), (r : Int)]
      refine ⟨(sumI orderL [wrap64 seed, (i : Int), (r : Int)]).toNat, ?_, ?_, by omega, hW.new h2, h2.cell hb (fun h => h)⟩
      · rw [h1, wrapEq, Int.toNat_of_nonneg hrg.1]; rfl
      · exact Int.toNat_of_nonneg hrg.1
  have hb0 : Blk (w.alloc (.cells #[.int .u64 seed, .int .i64 h] 142)) w.heap.size 142 #[.int .u64 seed, .int .i64 h] := Blk.new _ _ _
  have hR := Rd.lit (w := w.alloc (.cells #[.int .u64 seed, .int .i64 h] 142)) (e := 3) (is [IntKind.i64.wrap seed, (i : Int), (r : Int)]) (n := 3) rfl
  rw [World.size_alloc] at hR
  have hcall := hsum ((w.alloc (.cells #[.int .u64 seed, .int .i64 h] 142)).alloc (.cells #[.int .i64 (IntKind.i64.wrap seed), .int .i64 (i : Int), .int .i64 (r : Int)] 3)).drew
    (hR.new ((Chg.refl _ _).drew)) ((((Chg.refl _ w).alloc _).alloc _).drew) (((hb0.alloc _).drew).cell 1 rfl)
  have HC := Lib.hid hcall
  clear hsum hb0 hR hcall
  go_region_with (first
    | (go_at_call 87; refine HC.out.mono ?_; rintro e w1 ⟨S, rfl, HS, hSlt, HN1, hc1⟩))
  all_goals
    go_wp2
    go_ret
    refine ⟨ret_int ?_, HN1.out⟩
    rw [← part_eq HS.out hSlt hh, wrapEq]
end Go.Proofs.YtmpkaimhjdkheaaGreatDoor
