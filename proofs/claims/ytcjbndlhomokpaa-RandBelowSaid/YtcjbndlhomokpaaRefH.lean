/- Contract of refuterref03.Div. -/
import Derived.Test.YtcjbndlhomokpaaRefG
namespace Go.Proofs.Ytcjbndlhomokpaa
set_option linter.unusedVariables false
open Go.RowKit Go.Mem Go.Dig

/-- Quotient and rest by the amounts. -/
theorem ediv_pos' (s t : Bool) (X Y : Nat) (hY : 1 ≤ Y) (h : s = false ∨ X % Y = 0) : sg s X / sg t Y = sg (s != t) (X / Y : Nat) ∧ sg s X % sg t Y = ((X % Y : Nat) : Int) := by
  have hd := Nat.div_add_mod X Y
  have key : ∀ t : Bool, sg s X / (Y : Int) = sg s (X / Y : Nat) ∧ sg s X % (Y : Int) = ((X % Y : Nat) : Int) := by
    intro _
    rw [Int.ediv_emod_unique (by omega)]
    have hm := Nat.mod_lt X (show 0 < Y by omega)
    refine ⟨?_, by omega, by omega⟩
    rcases h with rfl | h
    · simp only [sg]
      have e : ((Y * (X / Y) + X % Y : Nat) : Int) = (X : Int) := by rw [hd]
      simp at e ⊢
      omega
    · rw [h] at hd ⊢
      have e : ((Y * (X / Y) + 0 : Nat) : Int) = (X : Int) := by rw [hd]
      cases s
      · simp [sg] at e ⊢; omega
      · simp [sg, Int.mul_neg] at e ⊢; omega
  obtain ⟨k1, k2⟩ := key true
  cases t
  · show sg s X / (Y : Int) = sg (s != false) (X / Y : Nat) ∧ sg s X % (Y : Int) = _
    rw [k1, k2]
    cases s <;> simp
  · show sg s X / (-(Y : Int)) = sg (s != true) (X / Y : Nat) ∧ sg s X % (-(Y : Int)) = _
    rw [Int.ediv_neg, Int.emod_neg, k1, k2]
    cases s <;> simp [sg]
theorem ediv_neg' (t : Bool) (X Y : Nat) (hY : 1 ≤ Y) (h : X % Y ≠ 0) : sg true X / sg t Y = sg (true != t) (X / Y + 1 : Nat) ∧ sg true X % sg t Y = ((Y - X % Y : Nat) : Int) := by
  have hd := Nat.div_add_mod X Y
  have hm := Nat.mod_lt X (show 0 < Y by omega)
  have key : sg true X / (Y : Int) = -((X / Y + 1 : Nat) : Int) ∧ sg true X % (Y : Int) = ((Y - X % Y : Nat) : Int) := by
    rw [Int.ediv_emod_unique (by omega)]
    refine ⟨?_, by omega, by omega⟩
    have e : ((Y * (X / Y) + X % Y : Nat) : Int) = (X : Int) := by rw [hd]
    simp only [sg]
    rw [Int.mul_neg, show ((Y : Int) * ((X / Y + 1 : Nat) : Int)) = (Y : Int) * (X / Y : Nat) + Y by rw [Int.natCast_add, Int.mul_add]; simp]
    rw [Int.natCast_add, Int.natCast_mul] at e
    simp only [if_true]
    omega
  obtain ⟨k1, k2⟩ := key
  cases t
  · show sg true X / (Y : Int) = sg (true != false) (X / Y + 1 : Nat) ∧ sg true X % (Y : Int) = _
    rw [k1, k2]
    simp [sg]
  · show sg true X / (-(Y : Int)) = sg (true != true) (X / Y + 1 : Nat) ∧ sg true X % (-(Y : Int)) = _
    rw [Int.ediv_neg, Int.emod_neg, k1, k2]
    simp [sg]

theorem one_lt_pow2 (k : Nat) (h : 0 < k) : 1 < 2 ^ k := Nat.one_lt_two_pow (by omega)
theorem sg_lt {s : Bool} {m k : Nat} (h : m < 2 ^ k) : (sg s m).natAbs < 2 ^ k := by rw [sg_abs]; exact h
theorem res_cc {P : Program} {fn : Func} {p q : Tmp} {ty ty2 : TypeId} {w : World} {g g2 : Nat} (h : fn.results = #[.cell p ty, .cell q ty2]) (tmps : Array Value) (hp : tmps.getD p undef = .pointer (some ⟨g, 0, none⟩)) {v v2 : Value} (hl : (loadVar ty ⟨g, 0, none⟩).run P w = .ok v w)
    (hq : tmps.getD q undef = .pointer (some ⟨g2, 0, none⟩)) (hl2 : (loadVar ty2 ⟨g2, 0, none⟩).run P w = .ok v2 w) : (results fn tmps).run P w = .ok (.tuple #[v, v2]) w := by
  have hp' : tmps[p]?.getD undef = .pointer (some ⟨g, 0, none⟩) := by simpa using hp
  have hq' : tmps[q]?.getD undef = .pointer (some ⟨g2, 0, none⟩) := by simpa using hq
  simp [results, h, hp', hq', asAddr, hl, hl2]
/-- Two structs are stored, one behind the other. -/
def set22 (W : World) (g g' : Nat) (p q r u : Value) : World := (((W.setCell ⟨g, 0, none⟩ p).setCell ⟨g, 1, none⟩ q).setCell ⟨g', 0, none⟩ r).setCell ⟨g', 1, none⟩ u
theorem blk22 {W : World} {g g' : Nat} {t t' : TypeId} {a b c d : Value} (h : Blk W g t #[a, b]) (h' : Blk W g' t' #[c, d]) (hne : g ≠ g') (p q r u : Value) : Blk (set22 W g g' p q r u) g t #[p, q] ∧ Blk (set22 W g g' p q r u) g' t' #[r, u] :=
  ⟨((h.set2 p q).far (p := ⟨g', 0, none⟩) hne r).far (p := ⟨g', 1, none⟩) hne u, ((h'.far (p := ⟨g, 0, none⟩) (fun e => hne e.symm) p).far (p := ⟨g, 1, none⟩) (fun e => hne e.symm) q).set2 r u⟩
theorem chg22 (W : World) (g g' : Nat) (p q r u : Value) : Chg (fun k => k = g ∨ k = g') W (set22 W g g' p q r u) :=
  ((((Chg.refl _ W).setCell (p := ⟨g, 0, none⟩) (fun _ => .inl rfl) p).setCell (p := ⟨g, 1, none⟩) (fun _ => .inl rfl) q).setCell (p := ⟨g', 0, none⟩) (fun _ => .inr rfl) r).setCell (p := ⟨g', 1, none⟩) (fun _ => .inr rfl) u
theorem DM.store22 {W : World} {A : Option Addr} {n k m g g' : Nat} {t t' : TypeId} {a b c d : Value} (hm : DM W A n k m) (h : Blk W g t #[a, b]) (h' : Blk W g' t' #[c, d]) (hne : g ≠ g') (hi : NoInt [a, b]) (hi' : NoInt [c, d]) (p q r u : Value) : DM (set22 W g g' p q r u) A n k m :=
  (hm.store h hi (Chg.at2 W g p q)).store ((h'.far (p := ⟨g, 0, none⟩) (fun e => hne e.symm) p).far (p := ⟨g, 1, none⟩) (fun e => hne e.symm) q) hi' (Chg.at2 _ g' r u)

set_option maxRecDepth 100000 in
set_option maxHeartbeats 4000000 in
theorem rdiv_dm (s s' : Bool) (A : Option Addr) (n c : Nat) (A' : Option Addr) (n' c' : Nat) (x y : Nat) (w : World) (hx : DM w A n c x) (hy : DM w A' n' c' y) (hn : n ≤ 1000000) (hn' : n' ≤ 900000) (hy1 : 1 ≤ y) (bx : x < 2 ^ 1000000) :
    Calls Try.prog 53 #[.agg #[.bool s, .slice A n c], .agg #[.bool s', .slice A' n' c']] w fun e w' => ∃ v v', e = .returned (.tuple #[v, v']) ∧ RN w' v (sg s x / sg s' y) ∧ RN w' v' (sg s x % sg s' y) ∧ New w w' := by
  obtain ⟨ZQ, hZQ⟩ : ∃ Z, sg s x / sg s' y = Z := ⟨_, rfl⟩
  obtain ⟨ZR, hZR⟩ : ∃ Z, sg s x % sg s' y = Z := ⟨_, rfl⟩
  rw [hZQ, hZR]
  have HZ := Lib.hid (And.intro hZQ hZR)
  have H0 := Lib.hid (And.intro hx (And.intro hy bx))
  clear hx hy bx hZQ hZR
  go_enter Try.func53, Try.ntmps53
  go_wp2_with fail
  refine Calls.new4 ?_
  intro W hb1 hb2 hb3 hb4 hnW hzW
  refine (divided_any A n c A' n' c' x y W (H0.out.1.new hnW) (H0.out.2.1.new hnW) hn hn' hy1).mono ?_
  rintro e w1 ⟨Q, kq, dq, R, mr, dr, rfl, ⟨lq, hoq, hdq, hvq⟩, hdr, hn1⟩
  have hc1 := hb1.chg hn1 (fun h => h)
  have hc2 := hb2.chg hn1 (fun h => h)
  have ha0 := hc1.cell 0 (u := .bool s) rfl
  have hb0 := hc2.cell 0 (u := .bool s') rfl
  have H1 := Lib.hid (And.intro hc1 (And.intro hc2 (And.intro (hb3.chg hn1 (fun h => h)) (And.intro (hb4.chg hn1 (fun h => h)) (And.intro (hnW.new hn1) (And.intro hdr (And.intro hoq (And.intro hdq hvq))))))))
  clear hb1 hb2 hb3 hb4 hnW hzW hoq hdq hvq hdr hn1 hc1 hc2
  go_wp2_with fail
  obtain ⟨hc1, hc2, hc3, hc4, hnw, hdr, hoq, hdq, hvq⟩ := H1.out
  have hcapq := own_cap hoq
  refine (normal_rn (s != s') Q kq dq lq w1 (Rd.of_own hoq) hdq hcapq.1 hcapq.2).mono ?_
  rintro e w2 ⟨v2, rfl, ⟨s2, A2, n2, c2, rfl, hs2, hm2⟩, hn2⟩
  rw [hvq] at hs2 hm2
  have H2 := Lib.hid (And.intro (hc1.chg hn2 (fun h => h)) (And.intro (hc2.chg hn2 (fun h => h)) (And.intro (hc3.chg hn2 (fun h => h)) (And.intro (hc4.chg hn2 (fun h => h)) (And.intro (hnw.new hn2) (And.intro (hdr.new hn2) (And.intro hs2 hm2)))))))
  clear hc1 hc2 hc3 hc4 hnw hdr hoq hdq hvq hcapq hs2 hm2 hn2 H1 ha0 hb0
  go_wp2_with fail
  refine Calls.new1 ?_
  intro W3 hb5 hn3 hz3
  obtain ⟨hc1, hc2, hc3, hc4, hnw, hdr, hs2, hm2⟩ := H2.out
  obtain ⟨lr, hrr, hrc, hrm, hNr⟩ := hdr.new hn3
  refine (normal_dm R mr dr lr W3 hrr hNr.digs hrc hrm).mono ?_
  rintro e w4 ⟨T4, rfl, hdm4, _, hn4⟩
  rw [hNr.val] at hdm4
  have hd1 := (hc1.chg hn3 (fun h => h)).chg hn4 (fun h => h)
  have ha0 := hd1.cell 0 (u := .bool s) rfl
  have hd2 := (hc2.chg hn3 (fun h => h)).chg hn4 (fun h => h)
  have hd5 := hb5.chg hn4 (fun h => h)
  have hdb := hd1.lt
  have hdb2 : w.heap.size + 1 + 1 + 1 < w2.heap.size := hc4.lt
  have hdb3 : w2.heap.size < w4.heap.size := hd5.lt
  have hpos := hdm4.pos
  have H4 := Lib.hid (And.intro hd1 (And.intro hd2 (And.intro ((hc3.chg hn3 (fun h => h)).chg hn4 (fun h => h)) (And.intro ((hc4.chg hn3 (fun h => h)).chg hn4 (fun h => h)) (And.intro hd5 (And.intro (hnw.new (hn3.new hn4)) (And.intro hs2 (And.intro ((hm2.new hn3).new hn4) (And.intro hdm4 hpos)))))))))
  clear hb5 hn3 hz3 hc1 hc2 hc3 hc4 hnw hdr hs2 hm2 hrr hrc hrm hNr hdm4 hn4 hd1 hd2 hd5 hpos H2
  by_cases hcase : s = true ∧ 0 < T4
  · obtain ⟨rfl, hT⟩ := hcase
    have hval : sg true x / sg s' y = sg (true != s') (x / y + 1 : Nat) ∧ sg true x % sg s' y = ((y - x % y : Nat) : Int) := by
      refine ediv_neg' s' x y hy1 (fun h => ?_)
      have := H4.out.2.2.2.2.2.2.2.2.2.2 h
      omega
    rw [HZ.out.1, HZ.out.2] at hval
    have HV := Lib.hid hval
    clear hval HZ
    have hbn : (true != s') = !s' := by cases s' <;> rfl
    rw [hbn] at H4 HV
    clear hbn
    have hTi : (0 : Int) < (T4 : Int) := by omega
    have hb0 := H4.out.2.1.cell 0 (u := .bool s') rfl
    have hdb4 : w.heap.size + 1 < w4.heap.size := H4.out.2.1.lt
    go_wp2_with fail
    refine Calls.new2 ?_
    intro W5 hb6 hb7 hn5 hz5
    obtain ⟨hd1, hd2, hd3, hd4, hd5, hnw, hs2, hm2, hdm4, hpos⟩ := H4.out
    have hr7 : Rd W5 (some ⟨w4.heap.size + 1, 0, none⟩) 1 (nv .i64 [1]) := ⟨rfl, fun _ => ⟨_, rfl, fun j u hu => by rw [Addr.add_lit, Nat.zero_add]; exact hb7.cell j (by simpa [nv] using hu)⟩⟩
    refine (normal_rn (!s') _ 1 1 [1] W5 hr7 (Digs.cons (by omega) (Digs.nil _)) (by omega) (by omega)).mono ?_
    rintro e w6 ⟨v6, rfl, ⟨s6, A6, n6, c6, rfl, hs6, hm6⟩, hn6⟩
    rw [show val 10000 [1] = 1 from rfl] at hs6 hm6
    have hn56 := hn5.new hn6
    have e5 := hd5.chg hn56 (fun h => h)
    have k50 := e5.cell 0 (u := .bool s2) rfl
    have k51 := e5.cell 1 (u := .slice A2 n2 c2) rfl
    have f50 := e5.frozen 0
    have f51 := e5.frozen 1
    have hl5 : w2.heap.size < w6.heap.size := e5.lt
    have H6 := Lib.hid (And.intro (hd2.chg hn56 (fun h => h)) (And.intro (hd3.chg hn56 (fun h => h)) (And.intro (hd4.chg hn56 (fun h => h)) (And.intro e5 (And.intro (hb6.chg hn6 (fun h => h)) (And.intro (hnw.new hn56) (And.intro hs2 (And.intro (hm2.new hn56) (And.intro (hdm4.new hn56) (And.intro hs6 hm6))))))))))
    clear hb6 hb7 hn5 hz5 hd1 hd2 hd3 hd4 hd5 hnw hs2 hm2 hdm4 hpos hr7 hs6 hm6 hn6 hn56 e5 H4 ha0 hb0
    go_wp2_with fail
    refine Calls.new1 ?_
    intro W7 hb8 hn7 hz7
    obtain ⟨g2, g3, g4, g5, g6, hnw, hs2, hm2, hdm4, hs6, hm6⟩ := H6.out
    have hx1 : 1 ≤ x := by
      rcases Nat.eq_zero_or_pos x with h | h
      · have := hdm4.pos.2 (by rw [h]; simp)
        omega
      · exact h
    have hq0 : x / y < 2 ^ 1000000 := Nat.lt_of_le_of_lt (Nat.div_le_self _ _) H0.out.2.2
    refine (radd_any _ _ (sg (!s') (x / y : Nat)) (sg (!s') (1 : Nat)) W7 ⟨s2, A2, n2, c2, rfl, hs2, hm2.new hn7⟩ ⟨s6, A6, n6, c6, rfl, hs6, hm6.new hn7⟩ (sg_lt (k := 1000000) hq0) (sg_lt (k := 1000000) (Nat.lt_of_le_of_lt hx1 H0.out.2.2))).mono ?_
    rintro e w8 ⟨v8, rfl, ⟨s8, A8, n8, c8, rfl, hs8, hm8⟩, hn8⟩
    have hsum : sg (!s') (x / y : Nat) + sg (!s') (1 : Nat) = sg (!s') (x / y + 1 : Nat) := by
      unfold sg
      split <;> omega
    rw [hsum] at hs8 hm8
    have hn78 := hn7.new hn8
    have q2 := g2.chg hn78 (fun h => h)
    have q5 := g5.chg hn78 (fun h => h)
    have q6 := g6.chg hn78 (fun h => h)
    have k50 := q5.cell 0 (u := .bool s2) rfl
    have k51 := q5.cell 1 (u := .slice A2 n2 c2) rfl
    have f50 := q5.frozen 0
    have f51 := q5.frozen 1
    have k21 := q2.cell 1 (u := .slice A' n' c') rfl
    have k61 := q6.cell 1 (u := .slice R T4 dr) rfl
    have hne1 : w.heap.size + 1 ≠ w2.heap.size := by omega
    have hne2 : w4.heap.size ≠ w2.heap.size := by omega
    have hT7 : T4 ≤ 900000 := by
      obtain ⟨lr', h1, _, _, hN1⟩ := hdm4
      obtain ⟨lb, hb, _, _, hNb⟩ := H0.out.2.1
      have hlb : lb.length = n' := by have := hb.len; rwa [nv_length] at this
      have hlr : lr'.length = T4 := by have := h1.len; rwa [nv_length] at this
      rcases Nat.lt_or_ge n' T4 with h | h
      · have h5 := hNb.len_lt (by omega) hN1 (by omega)
        have := Nat.mod_lt x (show 0 < y by omega)
        omega
      · omega
    have H8 := Lib.hid (And.intro (g3.chg hn78 (fun h => h)) (And.intro (g4.chg hn78 (fun h => h)) (And.intro q5 (And.intro q6 (And.intro (hnw.new hn78) (And.intro hs8 (And.intro hm8 (And.intro (hdm4.new hn78) (H0.out.2.1.new (hnw.new hn78))))))))))
    clear hb8 hn7 hz7 g2 g3 g4 g5 g6 hnw hs2 hm2 hdm4 hs6 hm6 hq0 hs8 hm8 hn8 hn78 q2 q5 q6 hsum H6 hl5
    go_wp2_with fail
    obtain ⟨g3, g4, g5, g6, hnw, hs8, hm8, hdm4, hdy⟩ := H8.out
    have hcs : Chg (fun k => k = w2.heap.size) w8 ((w8.setCell ⟨w2.heap.size, 0, none⟩ (.bool s8)).setCell ⟨w2.heap.size, 1, none⟩ (.slice A8 n8 c8)) := Chg.at2 _ _ _ _
    have hm8' := hm8.store g5 (noInt_two' _ _ _ _) hcs
    have hdm4' := hdm4.store g5 (noInt_two' _ _ _ _) hcs
    have hdy' := hdy.store g5 (noInt_two' _ _ _ _) hcs
    have g5' := g5.set2 (.bool s8) (.slice A8 n8 c8)
    have g3' := g3.chg hcs (by omega)
    have g4' := g4.chg hcs (by omega)
    have g6' := g6.chg hcs (by omega)
    have hnw' : New w _ := Chg.owned hnw hcs (fun k e => by omega)
    generalize ((w8.setCell ⟨w2.heap.size, 0, none⟩ (.bool s8)).setCell ⟨w2.heap.size, 1, none⟩ (.slice A8 n8 c8)) = W9 at *
    refine (minus_any A' n' c' R T4 dr y (x % y) W9 hdy' hdm4' (Nat.le_of_lt (Nat.mod_lt _ (by omega))) (by omega)).mono ?_
    rintro e wa ⟨Ra, ma, da, rfl, ⟨lra, hoa, hda, hva⟩, hna⟩
    have Ha := Lib.hid (And.intro (g3'.chg hna (fun h => h)) (And.intro (g4'.chg hna (fun h => h)) (And.intro (g5'.chg hna (fun h => h)) (And.intro (g6'.chg hna (fun h => h)) (And.intro (hnw'.new hna) (And.intro hs8 (And.intro (hm8'.new hna) (And.intro hoa (And.intro hda hva)))))))))
    clear g3 g4 g5 g6 hnw hs8 hm8 hdm4 hdy hcs hm8' hdm4' hdy' g5' g3' g4' g6' hnw' hoa hda hva hna H8 k50 k51 f50 f51 k21 k61
    go_wp2_with fail
    obtain ⟨p3, p4, p5, p6, hnw, hs8, hm8, hoa, hda, hva⟩ := Ha.out
    have hcapa := own_cap hoa
    refine (normal_dm Ra ma da lra wa (Rd.of_own hoa) hda hcapa.1 hcapa.2).mono ?_
    rintro e wb ⟨Tb, rfl, hdmb, _, hnb⟩
    rw [hva] at hdmb
    have e3 := p3.chg hnb (fun h => h)
    have e4 := p4.chg hnb (fun h => h)
    have e5 := p5.chg hnb (fun h => h)
    have e6 := p6.chg hnb (fun h => h)
    have k30 := e3.cell 0 (u := .bool false) rfl
    have k31 := e3.cell 1 (u := .slice none 0 0) rfl
    have k40 := e4.cell 0 (u := .bool false) rfl
    have k41 := e4.cell 1 (u := .slice none 0 0) rfl
    have k50 := e5.cell 0 (u := .bool s8) rfl
    have k51 := e5.cell 1 (u := .slice A8 n8 c8) rfl
    have k60 := e6.cell 0 (u := .bool false) rfl
    have k61 := e6.cell 1 (u := .slice R T4 dr) rfl
    have f30 := e3.frozen 0
    have f31 := e3.frozen 1
    have f40 := e4.frozen 0
    have f41 := e4.frozen 1
    have f60 := e6.frozen 0
    have f61 := e6.frozen 1
    have Hb := Lib.hid (And.intro e3 (And.intro e4 (And.intro e5 (And.intro e6 (And.intro (hnw.new hnb) (And.intro hs8 (And.intro (hm8.new hnb) hdmb)))))))
    have hne1 : w.heap.size + 1 + 1 ≠ w2.heap.size := by omega
    have hne2' : w.heap.size + 1 + 1 + 1 ≠ w2.heap.size := by omega
    have hne3 : w.heap.size + 1 + 1 ≠ w4.heap.size := by omega
    have hne4 : w.heap.size + 1 + 1 + 1 ≠ w4.heap.size := by omega
    clear p3 p4 p5 p6 hnw hs8 hm8 hoa hda hva hcapa hdmb hnb e3 e4 e5 e6 Ha
    go_wp2_with fail
    have hc6 : Chg (fun k => k = w4.heap.size) wb ((wb.setCell ⟨w4.heap.size, 0, none⟩ (.bool false)).setCell ⟨w4.heap.size, 1, none⟩ (.slice Ra Tb da)) := Chg.at2 _ _ _ _
    obtain ⟨e3, e4, e5, e6, hnw, hs8, hm8, hdmb⟩ := Hb.out
    have r3 := e3.chg hc6 (by omega)
    have r4 := e4.chg hc6 (by omega)
    have r6 := e6.set2 (.bool false) (.slice Ra Tb da)
    have hm8' := hm8.store e6 (noInt_two' _ _ _ _) hc6
    have hdmb' := hdmb.store e6 (noInt_two' _ _ _ _) hc6
    have hnw' : New w _ := Chg.owned hnw hc6 (fun k e => by omega)
    have r5 := e5.chg hc6 (by omega)
    generalize ((wb.setCell ⟨w4.heap.size, 0, none⟩ (.bool false)).setCell ⟨w4.heap.size, 1, none⟩ (.slice Ra Tb da)) = Wz at *
    have k30 := r3.cell 0 (u := .bool false) rfl
    have k31 := r3.cell 1 (u := .slice none 0 0) rfl
    have k40 := r4.cell 0 (u := .bool false) rfl
    have k41 := r4.cell 1 (u := .slice none 0 0) rfl
    have k50 := r5.cell 0 (u := .bool s8) rfl
    have k51 := r5.cell 1 (u := .slice A8 n8 c8) rfl
    have k60 := r6.cell 0 (u := .bool false) rfl
    have k61 := r6.cell 1 (u := .slice Ra Tb da) rfl
    have f30 := r3.frozen 0
    have f31 := r3.frozen 1
    have f40 := r4.frozen 0
    have f41 := r4.frozen 1
    have HF := Lib.hid (And.intro r3 (And.intro r4 (And.intro hnw' (And.intro hs8 (And.intro hm8' hdmb')))))
    clear hc6 e3 e4 e5 e6 hnw hs8 hm8 hdmb r3 r4 r5 r6 hm8' hdmb' hnw' Hb f60 f61
    go_region
    all_goals
      go_wp2
      obtain ⟨e3, e4, hnw, hs8, hm8, hdmb⟩ := HF.out
      have hg : w.heap.size + 1 + 1 ≠ w.heap.size + 1 + 1 + 1 := by omega
      obtain ⟨r3, r4⟩ := blk22 e3 e4 hg (.bool s8) (.slice A8 n8 c8) (.bool false) (.slice Ra Tb da)
      refine bodyPost_ret (res_cc rfl _ rfl (aggN.load (Blk.drew r3)) rfl (aggN.load (Blk.drew r4))) rfl ⟨_, _, rfl, ⟨s8, A8, n8, c8, rfl, by rw [HV.out.1]; exact hs8, ?_⟩, ⟨false, Ra, Tb, da, rfl, by rw [HV.out.2]; exact (decide_eq_false (Int.not_lt.2 (Int.natCast_nonneg _))).symm, ?_⟩, ?_⟩
      · rw [HV.out.1]; exact (hm8.store22 e3 e4 hg (noInt_two' _ _ _ _) (noInt_two' _ _ _ _) _ _ _ _).new ((Chg.refl _ _).drew)
      · rw [HV.out.2, Int.natAbs_natCast]; exact (hdmb.store22 e3 e4 hg (noInt_two' _ _ _ _) (noInt_two' _ _ _ _) _ _ _ _).new ((Chg.refl _ _).drew)
      · exact Chg.owned hnw (chg22 Wz _ _ _ _ _ _).drew (fun k e => by omega)
  · have hval : sg s x / sg s' y = sg (s != s') (x / y : Nat) ∧ sg s x % sg s' y = ((x % y : Nat) : Int) := by
      refine ediv_pos' s s' x y hy1 ?_
      cases s
      · exact .inl rfl
      · right
        have : T4 = 0 := by
          rcases Nat.eq_zero_or_pos T4 with h | h
          · exact h
          · exact absurd ⟨rfl, h⟩ hcase
        exact H4.out.2.2.2.2.2.2.2.2.2.1 this
    rw [HZ.out.1, HZ.out.2] at hval
    have HV := Lib.hid hval
    clear hval HZ
    cases s
    · go_wp2_with fail
      refine Code.new1 ?_
      intro W5 hb6 hn5 hz5
      obtain ⟨hd1, hd2, hd3, hd4, hd5, hnw, hs2, hm2, hdm4, hpos⟩ := H4.out
      have e3 := hd3.chg hn5 (fun h => h)
      have e4 := hd4.chg hn5 (fun h => h)
      have e5 := hd5.chg hn5 (fun h => h)
      have k30 := e3.cell 0 (u := .bool false) rfl
      have k31 := e3.cell 1 (u := .slice none 0 0) rfl
      have k40 := e4.cell 0 (u := .bool false) rfl
      have k41 := e4.cell 1 (u := .slice none 0 0) rfl
      have k50 := e5.cell 0 (u := .bool s2) rfl
      have k51 := e5.cell 1 (u := .slice A2 n2 c2) rfl
      have k60 := hb6.cell 0 (u := .bool false) rfl
      have k61 := hb6.cell 1 (u := .slice R T4 dr) rfl
      have f30 := e3.frozen 0
      have f31 := e3.frozen 1
      have f40 := e4.frozen 0
      have f41 := e4.frozen 1
      have HF := Lib.hid (And.intro e3 (And.intro e4 (And.intro (hnw.new hn5) (And.intro hs2 (And.intro (hm2.new hn5) (And.intro (hdm4.new hn5) hpos))))))
      have hne1 : w.heap.size + 1 + 1 ≠ w2.heap.size := by omega
      have hne2 : w.heap.size + 1 + 1 + 1 ≠ w2.heap.size := by omega
      have hne3 : w.heap.size + 1 + 1 ≠ w4.heap.size := by omega
      have hne4 : w.heap.size + 1 + 1 + 1 ≠ w4.heap.size := by omega
      clear hd1 hd2 hd3 hd4 hd5 hnw hs2 hm2 hdm4 hpos hn5 hz5 hb6 e3 e4 e5 H4
      go_region
      all_goals
        go_wp2
        obtain ⟨e3, e4, hnw, hs2, hm2, hdm4, hpos⟩ := HF.out
        have hg : w.heap.size + 1 + 1 ≠ w.heap.size + 1 + 1 + 1 := by omega
        obtain ⟨r3, r4⟩ := blk22 e3 e4 hg (.bool s2) (.slice A2 n2 c2) (.bool false) (.slice R T4 dr)
        refine bodyPost_ret (res_cc rfl _ rfl (aggN.load (Blk.drew r3)) rfl (aggN.load (Blk.drew r4))) rfl ⟨_, _, rfl, ⟨s2, A2, n2, c2, rfl, by rw [HV.out.1]; exact hs2, ?_⟩, ⟨false, R, T4, dr, rfl, by rw [HV.out.2]; exact (decide_eq_false (Int.not_lt.2 (Int.natCast_nonneg _))).symm, ?_⟩, ?_⟩
        · rw [HV.out.1]; exact (hm2.store22 e3 e4 hg (noInt_two' _ _ _ _) (noInt_two' _ _ _ _) _ _ _ _).new ((Chg.refl _ _).drew)
        · rw [HV.out.2, Int.natAbs_natCast]; exact (hdm4.store22 e3 e4 hg (noInt_two' _ _ _ _) (noInt_two' _ _ _ _) _ _ _ _).new ((Chg.refl _ _).drew)
        · exact Chg.owned hnw (chg22 W5 _ _ _ _ _ _).drew (fun k e => by omega)
    · have hT0 : T4 = 0 := by
        rcases Nat.eq_zero_or_pos T4 with h | h
        · exact h
        · exact absurd ⟨rfl, h⟩ hcase
      subst hT0
      clear hcase
      go_wp2_with fail
      refine Code.new1 ?_
      intro W5 hb6 hn5 hz5
      obtain ⟨hd1, hd2, hd3, hd4, hd5, hnw, hs2, hm2, hdm4, hpos⟩ := H4.out
      have e3 := hd3.chg hn5 (fun h => h)
      have e4 := hd4.chg hn5 (fun h => h)
      have e5 := hd5.chg hn5 (fun h => h)
      have k30 := e3.cell 0 (u := .bool false) rfl
      have k31 := e3.cell 1 (u := .slice none 0 0) rfl
      have k40 := e4.cell 0 (u := .bool false) rfl
      have k41 := e4.cell 1 (u := .slice none 0 0) rfl
      have k50 := e5.cell 0 (u := .bool s2) rfl
      have k51 := e5.cell 1 (u := .slice A2 n2 c2) rfl
      have k60 := hb6.cell 0 (u := .bool false) rfl
      have k61 := hb6.cell 1 (u := .slice R 0 dr) rfl
      have f30 := e3.frozen 0
      have f31 := e3.frozen 1
      have f40 := e4.frozen 0
      have f41 := e4.frozen 1
      have HF := Lib.hid (And.intro e3 (And.intro e4 (And.intro (hnw.new hn5) (And.intro hs2 (And.intro (hm2.new hn5) (And.intro (hdm4.new hn5) hpos))))))
      have hne1 : w.heap.size + 1 + 1 ≠ w2.heap.size := by omega
      have hne2 : w.heap.size + 1 + 1 + 1 ≠ w2.heap.size := by omega
      have hne3 : w.heap.size + 1 + 1 ≠ w4.heap.size := by omega
      have hne4 : w.heap.size + 1 + 1 + 1 ≠ w4.heap.size := by omega
      clear hd1 hd2 hd3 hd4 hd5 hnw hs2 hm2 hdm4 hpos hn5 hz5 hb6 e3 e4 e5 H4
      go_region
      all_goals
        go_wp2
        obtain ⟨e3, e4, hnw, hs2, hm2, hdm4, hpos⟩ := HF.out
        have hg : w.heap.size + 1 + 1 ≠ w.heap.size + 1 + 1 + 1 := by omega
        obtain ⟨r3, r4⟩ := blk22 e3 e4 hg (.bool s2) (.slice A2 n2 c2) (.bool false) (.slice R 0 dr)
        refine bodyPost_ret (res_cc rfl _ rfl (aggN.load (Blk.drew r3)) rfl (aggN.load (Blk.drew r4))) rfl ⟨_, _, rfl, ⟨s2, A2, n2, c2, rfl, by rw [HV.out.1]; exact hs2, ?_⟩, ⟨false, R, 0, dr, rfl, by rw [HV.out.2]; exact (decide_eq_false (Int.not_lt.2 (Int.natCast_nonneg _))).symm, ?_⟩, ?_⟩
        · rw [HV.out.1]; exact (hm2.store22 e3 e4 hg (noInt_two' _ _ _ _) (noInt_two' _ _ _ _) _ _ _ _).new ((Chg.refl _ _).drew)
        · rw [HV.out.2, Int.natAbs_natCast]; exact (hdm4.store22 e3 e4 hg (noInt_two' _ _ _ _) (noInt_two' _ _ _ _) _ _ _ _).new ((Chg.refl _ _).drew)
        · exact Chg.owned hnw (chg22 W5 _ _ _ _ _ _).drew (fun k e => by omega)

theorem rdiv_any (v v' : Value) (x y : Int) (w : World) (hx : RN w v x) (hy : RN w v' y) (bx : x.natAbs < 2 ^ 1000000) (bY : y.natAbs < 2 ^ 900000) (hy0 : y ≠ 0) :
    Calls Try.prog 53 #[v, v'] w fun e w' => ∃ v v', e = .returned (.tuple #[v, v']) ∧ RN w' v (x / y) ∧ RN w' v' (x % y) ∧ New w w' := by
  obtain ⟨s, A, n, c, rfl, hs, hm⟩ := hx
  obtain ⟨s', A', n', c', rfl, hs', hm'⟩ := hy
  have h := rdiv_dm s s' A n c A' n' c' _ _ w hm hm' (bz_len hm bx) (bz_len hm' bY) (by omega) bx
  rw [hs, hs', sg_of, sg_of] at h
  rw [hs, hs']
  exact h
end Go.Proofs.Ytcjbndlhomokpaa
