/- The operations that the reference makes of ints: the walk. -/
import Derived.Test.YtdflpcbkkpgnlaaRdJ
namespace Go.Proofs.Ytdflpcbkkpgnlaa
set_option linter.unusedVariables false
open Go.RowKit Go.Mem Go.Dk

theorem wpList_appV {P : Program} {ops : Array Oper} {rest : List Oper} {o : Oper} {a : Act} {Q : Exit → Act → World → Prop} {w w' : World} (hgd : o.guard = none) (s x : Operand) (t : TypeId) (ho : o.op = .call { callee := .builtin .append, args := #[s, x], argTypes := #[t, t] }) {v y v' : Value} (hsv : a.eval s = v) (hyv : a.eval x = y)
    (hrun : (Builtin.append_ #[t, t] o.type #[v, y]).run P w = .ok v' w') (h : wpList P ops Q rest (a.put o.dst v') w') : wpList P ops Q (o :: rest) a w :=
  wpList_plain hgd fun K hK => step_appW hgd s x t ho hsv hyv hrun (hK _ _ h)
theorem aggOp : Agg Try.prog 48 5 := ⟨_, Try.underlying48, rfl, by kernel_rfl⟩
theorem OpC.lit {w : World} {T : Nat → Prop} {kd fi nn : Int} : OpC w T [.int .i64 kd, .int .i64 fi, .int .i64 nn, .slice none 0 0, .slice none 0 0] ⟨kd, fi, nn, [], []⟩ :=
  ⟨none, 0, none, 0, rfl, Rd.nil _ _, Nat.le_refl _, Rd.nil _ _, fun k hk => by rcases hk with hk | hk <;> cases hk⟩
theorem rd_take {w : World} {g : Nat} {t : TypeId} {xs : List Value} (h : Blk w g t xs.toArray) {m : Nat} (hm : m ≤ xs.length) : Rd w (some ⟨g, 0, none⟩) m (xs.take m) :=
  ⟨by rw [List.length_take]; omega, fun _ => ⟨_, rfl, fun j u hu => by
    rw [Addr.add_lit, Nat.zero_add]
    refine h.cell j ?_
    rw [List.getElem?_take] at hu
    split at hu
    · simpa using hu
    · cases hu⟩⟩
theorem wrap_shB (x : Int) (k : Nat) : IntKind.u8.wrap (x / 2 ^ k) = ((shB x k).toNat : Int) := by
  unfold shB
  rw [UInt8.toNat_ofNat', IntKind.wrap_u8]
  omega
theorem shB_app {w : World} {A2 : Option Addr} {j c2 : Nat} {x : Int} {y : UInt8} (h : RowV w 5 IsU8 (.slice A2 j c2) (bs ((List.range j).map (shB x)))) (hy : shB x j = y) (hj : j ≤ 5) :
    ∃ A3 c3 w4, (Builtin.append_ #[27, 27] 27 #[.slice A2 j c2, .slice (some ⟨w.heap.size, 0, none⟩) 1 1]).run Try.prog (w.drew.alloc (.cells #[.int .u8 (y.toNat : Int)] 5)) = .ok (.slice A3 (j + 1) c3) w4 ∧
      RowV w4 5 IsU8 (.slice A3 (j + 1) c3) (bs ((List.range (j + 1)).map (shB x))) ∧ (∀ k, blkV (.slice A3 (j + 1) c3) = some k → blkV (.slice A2 j c2) = some k ∨ w.heap.size < k) ∧ Chg (fun k => blkV (.slice A2 j c2) = some k) (w.drew.alloc (.cells #[.int .u8 (y.toNat : Int)] 5)) w4 := by
  have hb : Blk (w.drew.alloc (.cells (bs [y]).toArray 5)) w.heap.size 5 (bs [y]).toArray := Blk.new w.drew 5 (bs [y]).toArray
  have hrd : Rd (w.drew.alloc (.cells (bs [y]).toArray 5)) (some ⟨w.heap.size, 0, none⟩) 1 (bs [y]) := rd_take hb (m := 1) (Nat.le_refl _)
  have h1 := h.new (((Chg.refl _ w).drew.alloc (.cells (bs [y]).toArray 5)) : New w _)
  obtain ⟨v3, w4, hrun, h2, h3, h4, _⟩ := RowV.app (P := Try.prog) elemB rfl ⟨0, rfl⟩ 27 27 h1 (src_rd (c := 1) Try.underlying27 hrd (bs_one [y])) (bs_u8 [y]) (by simp; omega) (by simp; omega)
  have hl : bs ((List.range j).map (shB x)) ++ bs [y] = bs ((List.range (j + 1)).map (shB x)) := by
    rw [List.range_succ, List.map_append, ← hy]
    simp [bs]
  rw [hl] at h2
  obtain ⟨A3, c3, rfl, _⟩ := h2.shape
  have hn : (bs ((List.range (j + 1)).map (shB x))).length = j + 1 := by simp
  rw [hn] at hrun h2 h4
  refine ⟨A3, c3, w4, hrun, h2, fun k hk => ?_, (Chg.refl (fun k => blkV (.slice A2 j c2) = some k) _).grown h3 (fun k hk _ => hk)⟩
  rcases h4 with e | ⟨e, _⟩
  · exact .inl (e ▸ hk)
  · rw [e] at hk
    injection hk with hk
    have e2 : (w.drew.alloc (.cells (bs [y]).toArray 5)).heap.size = w.heap.size + 1 := by simp
    exact .inr (by omega)
theorem tdiv16 {x : Int} (h : -9223372036854775808 ≤ x ∧ x ≤ 9223372036854775807) : -9223372036854775808 ≤ x.tdiv 16 ∧ x.tdiv 16 ≤ 9223372036854775807 := by
  rcases Int.le_total 0 x with h0 | h0
  · rw [Int.tdiv_eq_ediv_of_nonneg h0]; omega
  · have e : x.tdiv 16 = -((-x).tdiv 16) := by rw [Int.neg_tdiv, Int.neg_neg]
    rw [e, Int.tdiv_eq_ediv_of_nonneg (by omega)]
    omega

set_option maxHeartbeats 4000000 in
set_option maxRecDepth 100000 in
theorem rOps_any (A : Option Addr) (n c : Nat) (l : List Int) (w : World) (h : Rd w A n (is l)) (hr : ∀ z ∈ l, -9223372036854775808 ≤ z ∧ z ≤ 9223372036854775807) (hn : n ≤ 9223372036854775807) :
    Calls Try.prog 22 #[.slice A n c] w fun e w' => ∃ v, e = .returned v ∧ OpsV w' w.heap.size v (opsL l) ∧ New w w' := by
  have hl : l.length = n := by simpa using h.len
  have HL := Lib.hid hl
  have HR := Lib.hid h
  have HZ := Lib.hid hr
  clear h hr hl
  go_enter Try.func22, Try.ntmps22
  go_wp2
  go_loopw [4, 3] (fun u v wr => ∃ k : Nat, k ≤ n ∧ k ≤ 16 ∧ u = .int .i64 (k : Int) ∧ OpsV wr w.heap.size v ((l.take k).map opOf) ∧ New w wr) (fun u _ _ => 16 - (intOf u).toNat)
  case atStart => exact ⟨0, by omega, by omega, rfl, OpsV.nil _ _, Chg.refl _ _⟩
  case round =>
    obtain ⟨k, hk, hk16, rfl, hov, hnw⟩ := hrel
    have HO := Lib.hid hov
    have HN := Lib.hid hnw
    have hz1 : w.heap.size ≤ wr.heap.size := hnw.size
    clear hov
    by_cases hlt : k < n
    · by_cases hlt2 : k < 16
      · obtain ⟨ad, u, rfl, hu, hcu⟩ := (HR.out.new hnw).at_ hlt
        obtain ⟨x, hx, rfl⟩ := is_at hu
        have hxr := HZ.out x (List.mem_of_getElem? hx)
        have hadl := cell_lt' hcu
        have HT := Lib.hid (show (l.take (k + 1)).map opOf = (l.take k).map opOf ++ [opOf x] by
          rw [List.take_add_one, hx]
          simp)
        obtain ⟨hn1, hn2⟩ := aroundI_range (x.tdiv 16) 4096 (by omega)
        obtain ⟨ha1, ha2⟩ := aroundI_range x 16 (by omega)
        obtain ⟨q, hq⟩ : ∃ q : Nat, aroundI (x.tdiv 16) 4096 = (q : Int) := ⟨_, (Int.toNat_of_nonneg hn1).symm⟩
        obtain ⟨a, ha⟩ : ∃ a : Nat, aroundI x 16 = (a : Int) := ⟨_, (Int.toNat_of_nonneg ha1).symm⟩
        have hoN : opN x = q := by unfold opN; rw [hq]; rfl
        have hoA : opA x = a := by unfold opA; rw [ha]; rfl
        have HQ := Lib.hid hq
        have HA := Lib.hid ha
        rw [hq] at hn2
        rw [ha] at ha2
        have hxd := tdiv16 hxr
        have HX := Lib.hid hx
        clear hn1 ha1 hq ha hu hx hnw
        go_wp2_with fail
        refine (around_any (x.tdiv 16) 4096 _ hxd.1 hxd.2 (by omega) (by omega)).mono ?_
        rw [HQ.out]
        rintro e w2 ⟨rfl, rfl⟩
        go_wp2_with fail
        refine Calls.new1 fun W hB hNW hzW => ?_
        refine (around_any x 16 W hxr.1 hxr.2 (by omega) (by omega)).mono ?_
        rw [HA.out]
        rintro e w3 ⟨rfl, rfl⟩
        have HAPP := Lib.hid (show ∀ (W' : World) (cs : List Value) (g : Nat), W'.heap.size = g → New wr W' → OpC W' (fun k => wr.heap.size ≤ k ∧ k < W'.heap.size) cs (opOf x) → ∃ v' w', (Builtin.append_ #[44, 44] 44 #[u3, .slice (some ⟨g, 0, none⟩) 1 1]).run Try.prog (W'.alloc (.cells cs.toArray 48)) = .ok v' w' ∧ OpsV w' w.heap.size v' ((l.take (k + 1)).map opOf) ∧ New w w' from fun W' cs g hg h1 h2 => by
          subst hg
          have hA : New W' (W'.alloc (.cells cs.toArray 48)) := (Chg.refl _ _).alloc _
          obtain ⟨v', w', q1, q2, q3⟩ := HO.out.app (lo := w.heap.size) hz1 (h1.trans hA (fun _ _ h => h)) (g := W'.heap.size) (h2.chg hA (fun _ _ h => h) (fun k hk => ⟨hk.1, Nat.lt_of_lt_of_le hk.2 hA.size⟩)) (fun j u hu => (Blk.new W' 48 cs.toArray).cell j (by simpa using hu)) (by simp; omega)
          refine ⟨v', w', q1, by rw [HT.out]; exact q2, (HN.out.trans (h1.trans hA (fun _ _ h => h)) (fun _ _ h => h) : New w _).trans q3 (fun k hk e => ?_)⟩
          obtain ⟨css, h10, _⟩ := HO.out
          have := (ownsRow_block h10 e).1
          omega)
        have hb0 := hB.cell 0 (u := .int .i64 0) rfl
        have hb1 := hB.cell 1 (u := .int .i64 ((q : Int) % 3)) rfl
        have hb2 := hB.cell 2 (u := .int .i64 0) rfl
        have hb3 := hB.cell 3 (u := .slice none 0 0) rfl
        have hb4 := hB.cell 4 (u := .slice none 0 0) rfl
        have hgl := hB.lt
        have HB := Lib.hid hB
        have HNW := Lib.hid hNW
        rcases (show a = 0 ∨ a = 1 ∨ a = 2 ∨ a = 3 ∨ a = 4 ∨ a = 5 ∨ a = 6 ∨ 7 ≤ a by omega) with rfl | rfl | rfl | rfl | rfl | rfl | rfl | ha7
        · have hf0 := hB.frozen 0
          have e : opOf x = ⟨1, (q : Int) % 3, 0, [], []⟩ := by rw [opOf1 (by omega), hoN]; simp
          obtain ⟨v', w', hrun, hov2, hnw2⟩ := HAPP.out (W.setCell ⟨wr.heap.size, 0, none⟩ (.int .i64 1)) [.int .i64 1, .int .i64 ((q : Int) % 3), .int .i64 0, .slice none 0 0, .slice none 0 0] (wr.heap.size + 1) (by simp [hzW]) (HNW.out.trans ((Chg.refl (fun k => k = wr.heap.size) _).setCell (p := ⟨wr.heap.size, 0, none⟩) (fun _ => rfl) _) (fun k hk e => by omega)) (by rw [e]; exact OpC.lit)
          clear hB e
          go_wp2_with (at_builtin; refine wpList_appV rfl _ _ _ rfl rfl rfl hrun ?_)
          go_roundw
          case rel => exact ⟨k + 1, by omega, by omega, by go_num, hov2, hnw2⟩
          case measure => simp [intOf]; omega
        · have hf0 := hB.frozen 0
          have e : opOf x = ⟨1, (q : Int) % 3, 0, [], []⟩ := by rw [opOf1 (by omega), hoN]; simp
          obtain ⟨v', w', hrun, hov2, hnw2⟩ := HAPP.out (W.setCell ⟨wr.heap.size, 0, none⟩ (.int .i64 1)) [.int .i64 1, .int .i64 ((q : Int) % 3), .int .i64 0, .slice none 0 0, .slice none 0 0] (wr.heap.size + 1) (by simp [hzW]) (HNW.out.trans ((Chg.refl (fun k => k = wr.heap.size) _).setCell (p := ⟨wr.heap.size, 0, none⟩) (fun _ => rfl) _) (fun k hk e => by omega)) (by rw [e]; exact OpC.lit)
          clear hB e
          go_wp2_with (at_builtin; refine wpList_appV rfl _ _ _ rfl rfl rfl hrun ?_)
          go_roundw
          case rel => exact ⟨k + 1, by omega, by omega, by go_num, hov2, hnw2⟩
          case measure => simp [intOf]; omega
        · have hf0 := hB.frozen 0
          have hf2 := hB.frozen 2
          have e : opOf x = ⟨2, (q : Int) % 3, (q : Int) / 3 % 9 - 1, [], []⟩ := by rw [opOf2 (by omega), hoN]; simp
          obtain ⟨v', w', hrun, hov2, hnw2⟩ := HAPP.out ((W.setCell ⟨wr.heap.size, 0, none⟩ (.int .i64 2)).setCell ⟨wr.heap.size, 2, none⟩ (.int .i64 ((q : Int) / 3 % 9 - 1))) [.int .i64 2, .int .i64 ((q : Int) % 3), .int .i64 ((q : Int) / 3 % 9 - 1), .slice none 0 0, .slice none 0 0] (wr.heap.size + 1) (by simp [hzW]) (HNW.out.trans (((Chg.refl (fun k => k = wr.heap.size) _).setCell (p := ⟨wr.heap.size, 0, none⟩) (fun _ => rfl) _).setCell (p := ⟨wr.heap.size, 2, none⟩) (fun _ => rfl) _) (fun k hk e => by omega)) (by rw [e]; exact OpC.lit)
          clear hB e
          go_wp2_with (at_builtin; refine wpList_appV rfl _ _ _ rfl rfl rfl hrun ?_)
          go_roundw
          case rel => exact ⟨k + 1, by omega, by omega, by go_num, hov2, hnw2⟩
          case measure => simp [intOf]; omega
        · have hf0 := hB.frozen 0
          have hf2 := hB.frozen 2
          have e : opOf x = ⟨3, (q : Int) % 3, (q : Int) / 3 % 7 - 1, [], []⟩ := by rw [opOf3 (by omega), hoN]; simp
          obtain ⟨v', w', hrun, hov2, hnw2⟩ := HAPP.out ((W.setCell ⟨wr.heap.size, 0, none⟩ (.int .i64 3)).setCell ⟨wr.heap.size, 2, none⟩ (.int .i64 ((q : Int) / 3 % 7 - 1))) [.int .i64 3, .int .i64 ((q : Int) % 3), .int .i64 ((q : Int) / 3 % 7 - 1), .slice none 0 0, .slice none 0 0] (wr.heap.size + 1) (by simp [hzW]) (HNW.out.trans (((Chg.refl (fun k => k = wr.heap.size) _).setCell (p := ⟨wr.heap.size, 0, none⟩) (fun _ => rfl) _).setCell (p := ⟨wr.heap.size, 2, none⟩) (fun _ => rfl) _) (fun k hk e => by omega)) (by rw [e]; exact OpC.lit)
          clear hB e
          go_wp2_with (at_builtin; refine wpList_appV rfl _ _ _ rfl rfl rfl hrun ?_)
          go_roundw
          case rel => exact ⟨k + 1, by omega, by omega, by go_num, hov2, hnw2⟩
          case measure => simp [intOf]; omega
        · obtain ⟨m, hm⟩ : ∃ m, q / 125 % 4 = m := ⟨_, rfl⟩
          have hm4 : m ≤ 3 := by omega
          have hmi : (q : Int) / 125 % 4 = (m : Int) := by omega
          have hf0 := hB.frozen 0
          have hf2 := hB.frozen 2
          have hf4 := hB.frozen 4
          have e : opOf x = ⟨4, (q : Int) % 3, (q : Int) / 4 % 40 - 4, [], [(q : Int) % 5 - 1, (q : Int) / 5 % 5, (q : Int) / 25 % 5].take m⟩ := by rw [opOf4 (by omega), hoN, hm]; simp
          have hz1' : ((((W.setCell ⟨wr.heap.size, 0, none⟩ (.int .i64 4)).setCell ⟨wr.heap.size, 2, none⟩ (.int .i64 ((q : Int) / 4 % 40 - 4))).setCell ⟨wr.heap.size, 4, none⟩ (.slice (some ⟨wr.heap.size + 1, 0, none⟩) 3 3)).setCell ⟨wr.heap.size, 4, none⟩ (.slice (some ⟨wr.heap.size + 1, 0, none⟩) m 3)).heap.size = wr.heap.size + 1 := by simp [hzW]
          have hL2 : Blk (((((W.setCell ⟨wr.heap.size, 0, none⟩ (.int .i64 4)).setCell ⟨wr.heap.size, 2, none⟩ (.int .i64 ((q : Int) / 4 % 40 - 4))).setCell ⟨wr.heap.size, 4, none⟩ (.slice (some ⟨wr.heap.size + 1, 0, none⟩) 3 3)).setCell ⟨wr.heap.size, 4, none⟩ (.slice (some ⟨wr.heap.size + 1, 0, none⟩) m 3)).alloc (.cells [.int .i64 ((q : Int) % 5 - 1), .int .i64 ((q : Int) / 5 % 5), .int .i64 ((q : Int) / 25 % 5)].toArray 3)) (wr.heap.size + 1) 3 [.int .i64 ((q : Int) % 5 - 1), .int .i64 ((q : Int) / 5 % 5), .int .i64 ((q : Int) / 25 % 5)].toArray := (by have h := Blk.new ((((W.setCell ⟨wr.heap.size, 0, none⟩ (.int .i64 4)).setCell ⟨wr.heap.size, 2, none⟩ (.int .i64 ((q : Int) / 4 % 40 - 4))).setCell ⟨wr.heap.size, 4, none⟩ (.slice (some ⟨wr.heap.size + 1, 0, none⟩) 3 3)).setCell ⟨wr.heap.size, 4, none⟩ (.slice (some ⟨wr.heap.size + 1, 0, none⟩) m 3)) 3 [.int .i64 ((q : Int) % 5 - 1), .int .i64 ((q : Int) / 5 % 5), .int .i64 ((q : Int) / 25 % 5)].toArray; rwa [hz1'] at h)
          have hN1 : Chg (fun k => k = wr.heap.size) W (((((W.setCell ⟨wr.heap.size, 0, none⟩ (.int .i64 4)).setCell ⟨wr.heap.size, 2, none⟩ (.int .i64 ((q : Int) / 4 % 40 - 4))).setCell ⟨wr.heap.size, 4, none⟩ (.slice (some ⟨wr.heap.size + 1, 0, none⟩) 3 3)).setCell ⟨wr.heap.size, 4, none⟩ (.slice (some ⟨wr.heap.size + 1, 0, none⟩) m 3)).alloc (.cells [.int .i64 ((q : Int) % 5 - 1), .int .i64 ((q : Int) / 5 % 5), .int .i64 ((q : Int) / 25 % 5)].toArray 3)) := ((((((Chg.refl (fun k => k = wr.heap.size) _).setCell (p := ⟨wr.heap.size, 0, none⟩) (fun _ => rfl) _).setCell (p := ⟨wr.heap.size, 2, none⟩) (fun _ => rfl) _).setCell (p := ⟨wr.heap.size, 4, none⟩) (fun _ => rfl) _).setCell (p := ⟨wr.heap.size, 4, none⟩) (fun _ => rfl) _).alloc _)
          have hT : ∀ k, blk (some (⟨wr.heap.size + 1, 0, none⟩ : Addr)) = some k → wr.heap.size ≤ k ∧ k < (((((W.setCell ⟨wr.heap.size, 0, none⟩ (.int .i64 4)).setCell ⟨wr.heap.size, 2, none⟩ (.int .i64 ((q : Int) / 4 % 40 - 4))).setCell ⟨wr.heap.size, 4, none⟩ (.slice (some ⟨wr.heap.size + 1, 0, none⟩) 3 3)).setCell ⟨wr.heap.size, 4, none⟩ (.slice (some ⟨wr.heap.size + 1, 0, none⟩) m 3)).alloc (.cells [.int .i64 ((q : Int) % 5 - 1), .int .i64 ((q : Int) / 5 % 5), .int .i64 ((q : Int) / 25 % 5)].toArray 3)).heap.size := fun k hk => by (have hk : wr.heap.size + 1 = k := (by simpa [blk] using hk); have := hL2.lt; omega)
          obtain ⟨v', w', hrun, hov2, hnw2⟩ := HAPP.out (((((W.setCell ⟨wr.heap.size, 0, none⟩ (.int .i64 4)).setCell ⟨wr.heap.size, 2, none⟩ (.int .i64 ((q : Int) / 4 % 40 - 4))).setCell ⟨wr.heap.size, 4, none⟩ (.slice (some ⟨wr.heap.size + 1, 0, none⟩) 3 3)).setCell ⟨wr.heap.size, 4, none⟩ (.slice (some ⟨wr.heap.size + 1, 0, none⟩) m 3)).alloc (.cells [.int .i64 ((q : Int) % 5 - 1), .int .i64 ((q : Int) / 5 % 5), .int .i64 ((q : Int) / 25 % 5)].toArray 3)) [.int .i64 4, .int .i64 ((q : Int) % 3), .int .i64 ((q : Int) / 4 % 40 - 4), .slice none 0 0, .slice (some ⟨wr.heap.size + 1, 0, none⟩) m 3] (wr.heap.size + 1 + 1) (by simp [hzW]) (HNW.out.trans hN1 (fun k hk e => by omega)) (by rw [e]; exact ⟨none, 0, some ⟨wr.heap.size + 1, 0, none⟩, 3, by simp; omega, Rd.nil _ _, Nat.le_refl _, by have h := rd_take hL2 (m := m) (by simp; omega); rw [show (List.take m [(q : Int) % 5 - 1, (q : Int) / 5 % 5, (q : Int) / 25 % 5]).length = m by rw [List.length_take]; simp; omega]; simpa [is, List.map_take] using h, fun k hk => hk.elim (fun h => by cases h) (fun h => hT k h)⟩)
          have hq4 := ((((hB.set_ 0 (.int .i64 4)).set_ 2 (.int .i64 ((q : Int) / 4 % 40 - 4))).set_ 4 (.slice (some ⟨wr.heap.size + 1, 0, none⟩) 3 3)).set_ 4 (.slice (some ⟨wr.heap.size + 1, 0, none⟩) m 3)).cell 4 (u := .slice (some ⟨wr.heap.size + 1, 0, none⟩) m 3) (by simp)
          have hq5 : (((((W.setCell ⟨wr.heap.size, 0, none⟩ (.int .i64 4)).setCell ⟨wr.heap.size, 2, none⟩ (.int .i64 ((q : Int) / 4 % 40 - 4))).setCell ⟨wr.heap.size, 4, none⟩ (.slice (some ⟨wr.heap.size + 1, 0, none⟩) 3 3)).setCell ⟨wr.heap.size, 4, none⟩ (.slice (some ⟨wr.heap.size + 1, 0, none⟩) m 3)).alloc (.cells [.int .i64 ((q : Int) % 5 - 1), .int .i64 ((q : Int) / 5 % 5), .int .i64 ((q : Int) / 25 % 5)].toArray 3)).cell? ⟨wr.heap.size, 4, none⟩ = some (.slice (some ⟨wr.heap.size + 1, 0, none⟩) m 3) := (((((hB.set_ 0 (.int .i64 4)).set_ 2 (.int .i64 ((q : Int) / 4 % 40 - 4))).set_ 4 (.slice (some ⟨wr.heap.size + 1, 0, none⟩) 3 3)).set_ 4 (.slice (some ⟨wr.heap.size + 1, 0, none⟩) m 3)).alloc (.cells [.int .i64 ((q : Int) % 5 - 1), .int .i64 ((q : Int) / 5 % 5), .int .i64 ((q : Int) / 25 % 5)].toArray 3)).cell 4 (u := .slice (some ⟨wr.heap.size + 1, 0, none⟩) m 3) (by simp)
          clear hB e hL2 hN1 hT hz1' hm
          go_wp2_with (at_builtin; refine wpList_appV rfl _ _ _ rfl rfl rfl hrun ?_)
          go_roundw
          case rel => exact ⟨k + 1, by omega, by omega, by go_num, hov2, hnw2⟩
          case measure => simp [intOf]; omega
        · obtain ⟨m, hm⟩ : ∃ m, q / 125 % 4 = m := ⟨_, rfl⟩
          have hm4 : m ≤ 3 := by omega
          have hmi : (q : Int) / 125 % 4 = (m : Int) := by omega
          have hf0 := hB.frozen 0
          have hf2 := hB.frozen 2
          have hf4 := hB.frozen 4
          have e : opOf x = ⟨4, (q : Int) % 3, (q : Int) / 4 % 40 - 4, [], [(q : Int) % 5 - 1, (q : Int) / 5 % 5, (q : Int) / 25 % 5].take m⟩ := by rw [opOf4 (by omega), hoN, hm]; simp
          have hz1' : ((((W.setCell ⟨wr.heap.size, 0, none⟩ (.int .i64 4)).setCell ⟨wr.heap.size, 2, none⟩ (.int .i64 ((q : Int) / 4 % 40 - 4))).setCell ⟨wr.heap.size, 4, none⟩ (.slice (some ⟨wr.heap.size + 1, 0, none⟩) 3 3)).setCell ⟨wr.heap.size, 4, none⟩ (.slice (some ⟨wr.heap.size + 1, 0, none⟩) m 3)).heap.size = wr.heap.size + 1 := by simp [hzW]
          have hL2 : Blk (((((W.setCell ⟨wr.heap.size, 0, none⟩ (.int .i64 4)).setCell ⟨wr.heap.size, 2, none⟩ (.int .i64 ((q : Int) / 4 % 40 - 4))).setCell ⟨wr.heap.size, 4, none⟩ (.slice (some ⟨wr.heap.size + 1, 0, none⟩) 3 3)).setCell ⟨wr.heap.size, 4, none⟩ (.slice (some ⟨wr.heap.size + 1, 0, none⟩) m 3)).alloc (.cells [.int .i64 ((q : Int) % 5 - 1), .int .i64 ((q : Int) / 5 % 5), .int .i64 ((q : Int) / 25 % 5)].toArray 3)) (wr.heap.size + 1) 3 [.int .i64 ((q : Int) % 5 - 1), .int .i64 ((q : Int) / 5 % 5), .int .i64 ((q : Int) / 25 % 5)].toArray := (by have h := Blk.new ((((W.setCell ⟨wr.heap.size, 0, none⟩ (.int .i64 4)).setCell ⟨wr.heap.size, 2, none⟩ (.int .i64 ((q : Int) / 4 % 40 - 4))).setCell ⟨wr.heap.size, 4, none⟩ (.slice (some ⟨wr.heap.size + 1, 0, none⟩) 3 3)).setCell ⟨wr.heap.size, 4, none⟩ (.slice (some ⟨wr.heap.size + 1, 0, none⟩) m 3)) 3 [.int .i64 ((q : Int) % 5 - 1), .int .i64 ((q : Int) / 5 % 5), .int .i64 ((q : Int) / 25 % 5)].toArray; rwa [hz1'] at h)
          have hN1 : Chg (fun k => k = wr.heap.size) W (((((W.setCell ⟨wr.heap.size, 0, none⟩ (.int .i64 4)).setCell ⟨wr.heap.size, 2, none⟩ (.int .i64 ((q : Int) / 4 % 40 - 4))).setCell ⟨wr.heap.size, 4, none⟩ (.slice (some ⟨wr.heap.size + 1, 0, none⟩) 3 3)).setCell ⟨wr.heap.size, 4, none⟩ (.slice (some ⟨wr.heap.size + 1, 0, none⟩) m 3)).alloc (.cells [.int .i64 ((q : Int) % 5 - 1), .int .i64 ((q : Int) / 5 % 5), .int .i64 ((q : Int) / 25 % 5)].toArray 3)) := ((((((Chg.refl (fun k => k = wr.heap.size) _).setCell (p := ⟨wr.heap.size, 0, none⟩) (fun _ => rfl) _).setCell (p := ⟨wr.heap.size, 2, none⟩) (fun _ => rfl) _).setCell (p := ⟨wr.heap.size, 4, none⟩) (fun _ => rfl) _).setCell (p := ⟨wr.heap.size, 4, none⟩) (fun _ => rfl) _).alloc _)
          have hT : ∀ k, blk (some (⟨wr.heap.size + 1, 0, none⟩ : Addr)) = some k → wr.heap.size ≤ k ∧ k < (((((W.setCell ⟨wr.heap.size, 0, none⟩ (.int .i64 4)).setCell ⟨wr.heap.size, 2, none⟩ (.int .i64 ((q : Int) / 4 % 40 - 4))).setCell ⟨wr.heap.size, 4, none⟩ (.slice (some ⟨wr.heap.size + 1, 0, none⟩) 3 3)).setCell ⟨wr.heap.size, 4, none⟩ (.slice (some ⟨wr.heap.size + 1, 0, none⟩) m 3)).alloc (.cells [.int .i64 ((q : Int) % 5 - 1), .int .i64 ((q : Int) / 5 % 5), .int .i64 ((q : Int) / 25 % 5)].toArray 3)).heap.size := fun k hk => by (have hk : wr.heap.size + 1 = k := (by simpa [blk] using hk); have := hL2.lt; omega)
          obtain ⟨v', w', hrun, hov2, hnw2⟩ := HAPP.out (((((W.setCell ⟨wr.heap.size, 0, none⟩ (.int .i64 4)).setCell ⟨wr.heap.size, 2, none⟩ (.int .i64 ((q : Int) / 4 % 40 - 4))).setCell ⟨wr.heap.size, 4, none⟩ (.slice (some ⟨wr.heap.size + 1, 0, none⟩) 3 3)).setCell ⟨wr.heap.size, 4, none⟩ (.slice (some ⟨wr.heap.size + 1, 0, none⟩) m 3)).alloc (.cells [.int .i64 ((q : Int) % 5 - 1), .int .i64 ((q : Int) / 5 % 5), .int .i64 ((q : Int) / 25 % 5)].toArray 3)) [.int .i64 4, .int .i64 ((q : Int) % 3), .int .i64 ((q : Int) / 4 % 40 - 4), .slice none 0 0, .slice (some ⟨wr.heap.size + 1, 0, none⟩) m 3] (wr.heap.size + 1 + 1) (by simp [hzW]) (HNW.out.trans hN1 (fun k hk e => by omega)) (by rw [e]; exact ⟨none, 0, some ⟨wr.heap.size + 1, 0, none⟩, 3, by simp; omega, Rd.nil _ _, Nat.le_refl _, by have h := rd_take hL2 (m := m) (by simp; omega); rw [show (List.take m [(q : Int) % 5 - 1, (q : Int) / 5 % 5, (q : Int) / 25 % 5]).length = m by rw [List.length_take]; simp; omega]; simpa [is, List.map_take] using h, fun k hk => hk.elim (fun h => by cases h) (fun h => hT k h)⟩)
          have hq4 := ((((hB.set_ 0 (.int .i64 4)).set_ 2 (.int .i64 ((q : Int) / 4 % 40 - 4))).set_ 4 (.slice (some ⟨wr.heap.size + 1, 0, none⟩) 3 3)).set_ 4 (.slice (some ⟨wr.heap.size + 1, 0, none⟩) m 3)).cell 4 (u := .slice (some ⟨wr.heap.size + 1, 0, none⟩) m 3) (by simp)
          have hq5 : (((((W.setCell ⟨wr.heap.size, 0, none⟩ (.int .i64 4)).setCell ⟨wr.heap.size, 2, none⟩ (.int .i64 ((q : Int) / 4 % 40 - 4))).setCell ⟨wr.heap.size, 4, none⟩ (.slice (some ⟨wr.heap.size + 1, 0, none⟩) 3 3)).setCell ⟨wr.heap.size, 4, none⟩ (.slice (some ⟨wr.heap.size + 1, 0, none⟩) m 3)).alloc (.cells [.int .i64 ((q : Int) % 5 - 1), .int .i64 ((q : Int) / 5 % 5), .int .i64 ((q : Int) / 25 % 5)].toArray 3)).cell? ⟨wr.heap.size, 4, none⟩ = some (.slice (some ⟨wr.heap.size + 1, 0, none⟩) m 3) := (((((hB.set_ 0 (.int .i64 4)).set_ 2 (.int .i64 ((q : Int) / 4 % 40 - 4))).set_ 4 (.slice (some ⟨wr.heap.size + 1, 0, none⟩) 3 3)).set_ 4 (.slice (some ⟨wr.heap.size + 1, 0, none⟩) m 3)).alloc (.cells [.int .i64 ((q : Int) % 5 - 1), .int .i64 ((q : Int) / 5 % 5), .int .i64 ((q : Int) / 25 % 5)].toArray 3)).cell 4 (u := .slice (some ⟨wr.heap.size + 1, 0, none⟩) m 3) (by simp)
          clear hB e hL2 hN1 hT hz1' hm
          go_wp2_with (at_builtin; refine wpList_appV rfl _ _ _ rfl rfl rfl hrun ?_)
          go_roundw
          case rel => exact ⟨k + 1, by omega, by omega, by go_num, hov2, hnw2⟩
          case measure => simp [intOf]; omega
        · have hf1 := hB.frozen 1
          have hf3 := hB.frozen 3
          have e : opOf x = ⟨0, (q : Int) % 70 - 3, 0, [1], []⟩ := by rw [opOf6 (by omega), hoN]; simp
          have hz1' : ((W.setCell ⟨wr.heap.size, 1, none⟩ (.int .i64 ((q : Int) % 70 - 3))).setCell ⟨wr.heap.size, 3, none⟩ (.slice (some ⟨wr.heap.size + 1, 0, none⟩) 1 1)).heap.size = wr.heap.size + 1 := by simp [hzW]
          have hL2 : Blk (((W.setCell ⟨wr.heap.size, 1, none⟩ (.int .i64 ((q : Int) % 70 - 3))).setCell ⟨wr.heap.size, 3, none⟩ (.slice (some ⟨wr.heap.size + 1, 0, none⟩) 1 1)).alloc (.cells [.int .u8 1].toArray 5)) (wr.heap.size + 1) 5 [.int .u8 1].toArray := (by have h := Blk.new ((W.setCell ⟨wr.heap.size, 1, none⟩ (.int .i64 ((q : Int) % 70 - 3))).setCell ⟨wr.heap.size, 3, none⟩ (.slice (some ⟨wr.heap.size + 1, 0, none⟩) 1 1)) 5 [.int .u8 1].toArray; rwa [hz1'] at h)
          have hN1 : Chg (fun k => k = wr.heap.size) W (((W.setCell ⟨wr.heap.size, 1, none⟩ (.int .i64 ((q : Int) % 70 - 3))).setCell ⟨wr.heap.size, 3, none⟩ (.slice (some ⟨wr.heap.size + 1, 0, none⟩) 1 1)).alloc (.cells [.int .u8 1].toArray 5)) := ((((Chg.refl (fun k => k = wr.heap.size) _).setCell (p := ⟨wr.heap.size, 1, none⟩) (fun _ => rfl) _).setCell (p := ⟨wr.heap.size, 3, none⟩) (fun _ => rfl) _).alloc _)
          have hT : ∀ k, blk (some (⟨wr.heap.size + 1, 0, none⟩ : Addr)) = some k → wr.heap.size ≤ k ∧ k < (((W.setCell ⟨wr.heap.size, 1, none⟩ (.int .i64 ((q : Int) % 70 - 3))).setCell ⟨wr.heap.size, 3, none⟩ (.slice (some ⟨wr.heap.size + 1, 0, none⟩) 1 1)).alloc (.cells [.int .u8 1].toArray 5)).heap.size := fun k hk => by (have hk : wr.heap.size + 1 = k := (by simpa [blk] using hk); have := hL2.lt; omega)
          obtain ⟨v', w', hrun, hov2, hnw2⟩ := HAPP.out (((W.setCell ⟨wr.heap.size, 1, none⟩ (.int .i64 ((q : Int) % 70 - 3))).setCell ⟨wr.heap.size, 3, none⟩ (.slice (some ⟨wr.heap.size + 1, 0, none⟩) 1 1)).alloc (.cells [.int .u8 1].toArray 5)) [.int .i64 0, .int .i64 ((q : Int) % 70 - 3), .int .i64 0, .slice (some ⟨wr.heap.size + 1, 0, none⟩) 1 1, .slice none 0 0] (wr.heap.size + 1 + 1) (by simp [hzW]) (HNW.out.trans hN1 (fun k hk e => by omega)) (by rw [e]; exact ⟨some ⟨wr.heap.size + 1, 0, none⟩, 1, none, 0, rfl, by have h := rd_take hL2 (m := 1) (by simp); exact h, Nat.le_refl _, Rd.nil _ _, fun k hk => hk.elim (fun h => hT k h) (fun h => by cases h)⟩)
          clear hB e hL2 hN1 hT hz1' 
          go_wp2_with (at_builtin; refine wpList_appV rfl _ _ _ rfl rfl rfl hrun ?_)
          go_roundw
          case rel => exact ⟨k + 1, by omega, by omega, by go_num, hov2, hnw2⟩
          case measure => simp [intOf]; omega
        · generalize hgO : wr.heap.size = gO at *
          obtain ⟨m, hm⟩ : ∃ m, q / 3 % 6 = m := ⟨_, rfl⟩
          have hm6 : m ≤ 5 := by omega
          have hmi : (q : Int) / 3 % 6 = (m : Int) := by omega
          have e : opOf x = ⟨0, (q : Int) % 3, 0, (List.range m).map (shB x), []⟩ := by rw [opOf7 (by omega), hoN, hm]; simp
          have ha_0 : ((a : Int) == 0) = false := by simp; omega
          have ha_1 : ((a : Int) == 1) = false := by simp; omega
          have ha_2 : ((a : Int) == 2) = false := by simp; omega
          have ha_3 : ((a : Int) == 3) = false := by simp; omega
          have ha_4 : ((a : Int) == 4) = false := by simp; omega
          have ha_5 : ((a : Int) == 5) = false := by simp; omega
          have ha_6 : ((a : Int) == 6) = false := by simp; omega
          have HE := Lib.hid e
          have HGO := Lib.hid hgO
          have hzl : gO ≤ W.heap.size := by omega
          clear hm e hb0 hb1 hb2 hb3 hb4 hB hgO
          go_wp2_with fail
          go_loopw [7] (fun v wr2 => ∃ (j : Nat) (A2 : Option Addr) (c2 : Nat), j ≤ m ∧ v = .int .i64 (j : Int) ∧ Hid (Blk wr2 gO 48 #[.int .i64 0, .int .i64 ((q : Int) % 3), .int .i64 0, .slice A2 j c2, .slice none 0 0]) ∧ Hid (RowV wr2 5 IsU8 (.slice A2 j c2) (bs ((List.range j).map (shB x)))) ∧ (∀ k, blkV (.slice A2 j c2) = some k → gO < k) ∧ Hid (New wr wr2)) (fun v _ => m - (intOf v).toNat)
          case atStart => exact ⟨0, none, 0, Nat.zero_le _, rfl, HB, Lib.hid (RowV.nil _ _ _), (fun k hk => by cases hk), HNW⟩
          case round =>
            clear hcu hadl hgl hzW hzl
            obtain ⟨j, A2, c2, hj, rfl, HB2, HR2, hbk2, HN2⟩ := hrel
            obtain ⟨ad2, u2, had, hu2, hcu⟩ := (HR.out.new (HN.out.trans HN2.out (fun _ _ h => h))).at_ hlt
            injection had with had
            subst had
            obtain ⟨x2, hx2, rfl⟩ := is_at hu2
            obtain rfl : x = x2 := by rw [HX.out] at hx2; injection hx2
            have hadl := cell_lt' hcu
            have hgl := HB2.out.lt
            clear hu2 hx2
            have hb3 := HB2.out.cell 3 (u := .slice A2 j c2) rfl
            have hf3 := HB2.out.frozen 3
            by_cases hjm : j < m
            · have hw1 : IntKind.u64.wrap (j : Int) = (j : Int) := by rw [IntKind.wrap_u64]; omega
              obtain ⟨y, hy⟩ : ∃ y, shB x j = y := ⟨_, rfl⟩
              have hwb : IntKind.u8.wrap (x / 2 ^ j) = (y.toNat : Int) := by rw [← hy]; exact wrap_shB x j
              have HBL := Lib.hid (HB2.out.drew.alloc (.cells #[.int .u8 (y.toNat : Int)] 5))
              obtain ⟨A3, c3, w4, hrun, hrow4, hbk4, hch4⟩ := shB_app HR2.out hy (show j ≤ 5 by omega)
              have hb34 := HBL.out.chg hch4 (fun e => by have := hbk2 _ e; omega)
              have hbk5 : ∀ k, blkV (.slice A3 (j + 1) c3) = some k → gO < k := fun k hk => (hbk4 k hk).elim (hbk2 k) (fun h => by omega)
              have hf34 := hb34.frozen 3
              have hb44 := hb34.cell 3 (u := .slice A2 j c2) rfl
              have hgl4 := hb34.lt
              have HB4 := Lib.hid (hb34.set_ 3 (.slice A3 (j + 1) c3))
              have HR4 := Lib.hid (hrow4.chg ((Chg.refl (fun k => k = gO) w4).setCell (p := ⟨gO, 3, none⟩) (fun _ => rfl) (.slice A3 (j + 1) c3)) (fun k hk e => by rcases hbk4 k hk with h | h; exact absurd (hbk2 k h) (by omega); omega))
              have HN4 := Lib.hid (((HN2.out.trans ((Chg.refl _ wr).drew.alloc (.cells #[.int .u8 (y.toNat : Int)] 5) : New wr _) (fun _ _ h => h)).trans hch4 (fun k hk e => by have := hbk2 k e; have := HGO.out; omega)).trans ((Chg.refl (fun k => k = gO) w4).setCell (p := ⟨gO, 3, none⟩) (fun _ => rfl) (.slice A3 (j + 1) c3)) (fun k hk e => by have := HGO.out; omega))
              clear hb34 hrow4 hch4 hy
              go_wp2_with fail
              go_region_law (refine step_appV rfl _ _ _ rfl rfl rfl hrun ?_)
              · go_wp2
                go_roundw
                case rel => exact ⟨j + 1, A3, c3, by omega, by go_num, HB4, HR4, hbk5, HN4⟩
                case measure => simp [intOf]; omega
              · go_wp2
                go_roundw
                case rel => exact ⟨j + 1, A3, c3, by omega, by go_num, HB4, HR4, hbk5, HN4⟩
                case measure => simp [intOf]; omega
              · go_wp2
                go_roundw
                case rel => exact ⟨j + 1, A3, c3, by omega, by go_num, HB4, HR4, hbk5, HN4⟩
                case measure => simp [intOf]; omega
            · have hjm : j = m := by omega
              subst hjm
              have hb0 := HB2.out.cell 0 (u := .int .i64 0) rfl
              have hb1 := HB2.out.cell 1 (u := .int .i64 ((q : Int) % 3)) rfl
              have hb2 := HB2.out.cell 2 (u := .int .i64 0) rfl
              have hb4 := HB2.out.cell 4 (u := .slice none 0 0) rfl
              obtain ⟨A5, c5, hs5, hc5, _⟩ := HR2.out.shape
              have hl5 : (bs ((List.range j).map (shB x))).length = j := by simp
              rw [hl5] at hs5 hc5
              injection hs5 with h51 h52 h53
              subst h51 h53
              have hop : OpC wr (fun k => gO ≤ k ∧ k < wr.heap.size) [.int .i64 0, .int .i64 ((q : Int) % 3), .int .i64 0, .slice A2 j c2, .slice none 0 0] (opOf x) := by
                rw [HE.out]
                refine ⟨A2, c2, none, 0, by simp, by simpa using HR2.out.rd, by simpa using hc5, Rd.nil _ _, fun k hk => ?_⟩
                rcases hk with hk | hk
                · exact ⟨Nat.le_of_lt (hbk2 k hk), HR2.out.lt hk⟩
                · cases hk
              obtain ⟨v', w', hrun, hov2, hnw2⟩ := HAPP.out wr _ wr.heap.size rfl HN2.out hop
              clear hop hl5 hc5
              go_wp2_with (at_builtin; refine wpList_appV rfl _ _ _ rfl rfl rfl hrun ?_)
              go_roundw
              case rel => exact ⟨k + 1, by omega, by omega, by go_num, hov2, hnw2⟩
              case measure => simp [intOf]; omega
      · obtain rfl : k = 16 := by omega
        clear hnw
        go_wp2
        go_ret
        exact ⟨_, rfl, by unfold opsL; exact HO.out, HN.out⟩
    · obtain rfl : k = n := by omega
      clear hnw
      go_wp2
      go_ret
      refine ⟨_, rfl, ?_, HN.out⟩
      have e : l.take k = l.take 16 := by rw [List.take_of_length_le (by rw [HL.out]; omega), List.take_of_length_le (by rw [HL.out]; omega)]
      unfold opsL
      rw [← e]
      exact HO.out
end Go.Proofs.Ytdflpcbkkpgnlaa
