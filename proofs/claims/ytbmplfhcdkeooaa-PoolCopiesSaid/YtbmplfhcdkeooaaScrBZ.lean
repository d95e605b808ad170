/- Contract of refuterref36.Script. -/
import Derived.Test.YtbmplfhcdkeooaaScrAZ
import Derived.Deep.CutRange
import Derived.Deep.CutBlock
namespace Go.Proofs.Ytbmplfhcdkeooaa
set_option linter.unusedVariables false
set_option linter.unusedSimpArgs false
open Go.RowKit Go.Mem Go.Pl

theorem wpList_scr {ops : Array Oper} {rest : List Oper} {o : Oper} {a : Act} {Q : Exit → Act → World → Prop} {w : World} (hgd : o.guard = none) (s x : Operand) (ho : o.op = .call { callee := .builtin .append, args := #[s, x], argTypes := #[43, 43] }) (hty : o.type = 43)
    {v : Value} {gb lo : Nat} {os : List OpP} {op : OpP} {cl : List Value} (hsv : a.eval s = v) (hyv : a.eval x = .slice (some ⟨gb, 0, none⟩) 1 1) (h : ScrV w lo v os) (hlo : lo ≤ w.heap.size) (hc : OpS w (fun k => lo ≤ k ∧ v.ownBlock ≠ some k) cl op) (hg : ∀ j u, cl[j]? = some u → w.cell? ⟨gb, j, none⟩ = some u) (hn : os.length ≤ 2000)
    (K : ∀ A' c' w', ScrV w' lo (.slice A' (os.length + 1) c') (os ++ [op]) → Chg (fun k => v.ownBlock = some k) w w' → wpList Try.prog ops Q rest (a.put o.dst (.slice A' (os.length + 1) c')) w') : wpList Try.prog ops Q (o :: rest) a w := by
  obtain ⟨v', w', hr, h1, h2⟩ := h.app hlo hc hg hn
  obtain ⟨A', c', hv, _⟩ := h1.shape
  rw [List.length_append, List.length_singleton] at hv
  subst hv
  exact wpList_plain hgd fun Kq hKq => step_appN hgd s x 43 ho hsv hyv (by rw [hty]; exact hr) (hKq _ _ (K A' c' w' h1 h2))
theorem is_get {l : List Int} {k : Nat} {u : Value} (h : (is l)[k]? = some u) : ∃ z, u = .int .i64 z ∧ l[k]? = some z ∧ l.getD k 0 = z := by
  unfold is at h
  rw [List.getElem?_map] at h
  cases hq : l[k]? with
  | none => rw [hq] at h; cases h
  | some z => rw [hq] at h; injection h with h; exact ⟨z, h.symm, rfl, by rw [List.getD_eq_getElem?_getD, hq]; rfl⟩
/-- The operation that is being made: its bytes in block g1, its cells in the next one. -/
structure OpW (wr wx : World) (g1 : Nat) (kind worker n wait : Int) (N M : Nat) : Prop where
  new : New wr wx
  ge : wr.heap.size ≤ g1
  by_ : Blk wx g1 5 #[.int .u8 ((N : Int) % 256), .int .u8 ((M : Int) % 256)]
  op : Blk wx (g1 + 1) 47 #[.int .i64 kind, .int .i64 worker, .int .i64 n, .slice (some ⟨g1, 0, none⟩) 2 2, .int .i64 wait]
section
variable {wr wx : World} {g1 : Nat} {kind worker n wait : Int} {N M : Nat}
theorem OpW.cells (h : OpW wr wx g1 kind worker n wait N M) : wx.cell? ⟨g1 + 1, 0, none⟩ = some (.int .i64 kind) ∧ wx.cell? ⟨g1 + 1, 1, none⟩ = some (.int .i64 worker) ∧ wx.cell? ⟨g1 + 1, 2, none⟩ = some (.int .i64 n) ∧ wx.cell? ⟨g1 + 1, 3, none⟩ = some (.slice (some ⟨g1, 0, none⟩) 2 2) ∧ wx.cell? ⟨g1 + 1, 4, none⟩ = some (.int .i64 wait) ∧
    wx.frozen? ⟨g1 + 1, 0, none⟩ = false ∧ wx.frozen? ⟨g1 + 1, 1, none⟩ = false ∧ wx.frozen? ⟨g1 + 1, 2, none⟩ = false ∧ wx.frozen? ⟨g1 + 1, 3, none⟩ = false ∧ wx.frozen? ⟨g1 + 1, 4, none⟩ = false :=
  ⟨h.op.cell 0 rfl, h.op.cell 1 rfl, h.op.cell 2 rfl, h.op.cell 3 rfl, h.op.cell 4 rfl, h.op.frozen 0, h.op.frozen 1, h.op.frozen 2, h.op.frozen 3, h.op.frozen 4⟩
theorem OpW.lt (h : OpW wr wx g1 kind worker n wait N M) : g1 + 1 < wx.heap.size := h.op.lt
theorem OpW.set_ (h : OpW wr wx g1 kind worker n wait N M) (i : Nat) (u : Value) {kind' worker' n' wait' : Int} (e : (#[.int .i64 kind, .int .i64 worker, .int .i64 n, .slice (some ⟨g1, 0, none⟩) 2 2, .int .i64 wait] : Array Value).setIfInBounds i u = #[.int .i64 kind', .int .i64 worker', .int .i64 n', .slice (some ⟨g1, 0, none⟩) 2 2, .int .i64 wait']) : OpW wr (wx.setCell ⟨g1 + 1, i, none⟩ u) g1 kind' worker' n' wait' N M :=
  ⟨chg_setNew h.new (by have := h.ge; omega) u, h.ge, h.by_.chg (S := fun k => k = g1 + 1) ((Chg.refl (fun k => k = g1 + 1) wx).setCell (p := ⟨g1 + 1, i, none⟩) (fun _ => rfl) u) (by omega), e ▸ h.op.set_ i u⟩
theorem OpW.setWait (h : OpW wr wx g1 kind worker n wait N M) (z : Int) : OpW wr (wx.setCell ⟨g1 + 1, 4, none⟩ (.int .i64 z)) g1 kind worker n z N M := h.set_ 4 _ rfl
theorem OpW.setWork (h : OpW wr wx g1 kind worker n wait N M) (z : Int) : OpW wr (wx.setCell ⟨g1 + 1, 1, none⟩ (.int .i64 z)) g1 kind z n wait N M := h.set_ 1 _ rfl
theorem OpW.setKind (h : OpW wr wx g1 kind worker n wait N M) (z : Int) : OpW wr (wx.setCell ⟨g1 + 1, 0, none⟩ (.int .i64 z)) g1 z worker n wait N M := h.set_ 0 _ rfl
theorem OpW.setN (h : OpW wr wx g1 kind worker n wait N M) (z : Int) : OpW wr (wx.setCell ⟨g1 + 1, 2, none⟩ (.int .i64 z)) g1 kind worker z wait N M := h.set_ 2 _ rfl
theorem OpW.start (wr : World) {a b c : Int} (worker n wait : Int) (N M : Nat) (h1 : a = worker) (h2 : b = n) (h3 : c = wait) (h4 : True) (h5 : True) : OpW wr ((wr.alloc (.cells #[.int .u8 ((N : Int) % 256), .int .u8 ((M : Int) % 256)] 5)).alloc (.cells #[.int .i64 0, .int .i64 a, .int .i64 b, .slice (some ⟨wr.heap.size, 0, none⟩) 2 2, .int .i64 c] 47)) wr.heap.size 0 worker n wait N M := by
  subst h1 h2 h3
  refine ⟨((Chg.refl _ _).alloc _).alloc _, Nat.le_refl _, (Blk.new _ _ _).chg (S := fun _ => False) ((Chg.refl _ _).alloc _) (fun h => h), ?_⟩
  have := Blk.new (wr.alloc (.cells #[.int .u8 ((N : Int) % 256), .int .u8 ((M : Int) % 256)] 5)) 47 #[.int .i64 0, .int .i64 a, .int .i64 b, .slice (some ⟨wr.heap.size, 0, none⟩) 2 2, .int .i64 c]
  simpa using this
end
theorem bytes2 {w : World} {g N M : Nat} (h : Blk w g 5 #[.int .u8 ((N : Int) % 256), .int .u8 ((M : Int) % 256)]) : Rd w (some ⟨g, 0, none⟩) 2 (bs [UInt8.ofNat N, UInt8.ofNat M]) := by
  have e : bs [UInt8.ofNat N, UInt8.ofNat M] = [.int .u8 ((N : Int) % 256), .int .u8 ((M : Int) % 256)] := by
    simp [bs, By]
  rw [e]
  exact ⟨rfl, fun _ => ⟨_, rfl, fun j u hu => by rw [Addr.add_lit, Nat.zero_add]; exact h.cell j (by simpa using hu)⟩⟩
theorem wrapM13 (M : Nat) : IntKind.i64.wrap ((M : Int) % 13 - 1) = (M : Int) % 13 - 1 := IntWalk.i64_in _ (by omega)
set_option maxHeartbeats 4000000 in
set_option maxRecDepth 100000 in
theorem rScript_any (A : Option Addr) (n c : Nat) (l : List Int) (most : Nat) (hmost : most ≤ 1000) (w : World) (h : Rd w A n (is l)) (hr : ∀ z ∈ l, -9223372036854775808 ≤ z ∧ z ≤ 9223372036854775807) (hn : n ≤ 9223372036854775807) :
    Calls Try.prog 18 #[.slice A n c, .int .i64 (most : Int)] w fun e w' => ∃ A' c', e = .returned (.slice A' (script l most).length c') ∧ ScrV w' w.heap.size (.slice A' (script l most).length c') (script l most) ∧ New w w' := by
  have hll : l.length = n := by simpa [is] using h.len
  have HLL := Lib.hid hll
  have HRD := Lib.hid h
  have HRG := Lib.hid hr
  clear hll h hr
  go_enter Try.func18, Try.ntmps18
  go_wp2_with fail
  go_loopw [5, 6] (fun v iv wr => ∃ (i j : Nat) (A1 : Option Addr) (c1 : Nat), i = 2 * j ∧ i ≤ n ∧ j ≤ most ∧ iv = .int .i64 (i : Int) ∧ v = .slice A1 j c1 ∧ Hid (ScrV wr w.heap.size (.slice A1 j c1) (scrTo l j) ∧ New w wr)) (fun _ iv _ => n - (intOf iv).toNat)
  case atStart => exact ⟨0, 0, none, 0, rfl, by omega, by omega, rfl, rfl, Lib.hid ⟨ScrV.nil _ _, Chg.refl _ _⟩⟩
  case round =>
    obtain ⟨i, j, A1, c1, hij, hin, hjm, rfl, rfl, hs⟩ := hrel
    have hdone : (n ≤ i + 1 ∨ most ≤ j) → min (l.length / 2) most = j := fun h => by have := HLL.out; omega
    have HDN := Lib.hid hdone
    clear hdone
    have hfin : (n ≤ i + 1 ∨ most ≤ j) → ∃ A' c', Ending.returned (Value.slice A1 j c1) = .returned (.slice A' (script l most).length c') ∧ ScrV wr w.heap.size (.slice A' (script l most).length c') (script l most) ∧ New w wr := fun h => by
      have e : script l most = scrTo l j := by unfold script; rw [HDN.out h]
      rw [e, scrTo_len]
      exact ⟨A1, c1, rfl, hs.out.1, hs.out.2⟩
    have HFIN := Lib.hid hfin
    clear hfin
    have HIJ := Lib.hid hij
    have hi2 : i ≤ 2000 := by omega
    by_cases h1 : i + 1 < n
    · by_cases h2 : j < most
      · obtain ⟨ad, u, rfl, hu, hcu⟩ := (HRD.out.new hs.out.2).at_ (k := i) (by omega)
        obtain ⟨_, u2, hA2, hu2, hcu2⟩ := (HRD.out.new hs.out.2).at_ (k := i + 1) (by omega)
        injection hA2 with hA2
        subst hA2
        obtain ⟨z, rfl, hz, hzd⟩ := is_get hu
        obtain ⟨y, rfl, hy, hyd⟩ := is_get hu2
        have hzr := HRG.out z (List.mem_of_getElem? hz)
        have hyr := HRG.out y (List.mem_of_getElem? hy)
        obtain ⟨hN, hNlt⟩ := scN_eq z
        obtain ⟨hM, hMlt⟩ := scN_eq y
        have hop : Pl.opAt l j = opS z y := by unfold Pl.opAt; rw [← hij, hzd, hyd]
        unfold opS at hop
        clear hij
        obtain ⟨N, hN2⟩ : ∃ N, scN z = N := ⟨_, rfl⟩
        obtain ⟨M, hM2⟩ : ∃ M, scN y = M := ⟨_, rfl⟩
        rw [hN2] at hN hNlt hop
        rw [hM2] at hM hMlt hop
        have HN := Lib.hid hN
        have HM := Lib.hid hM
        have HOP := Lib.hid hop
        have hrun : (Instr.indexAt 31 (.slice (some ad) n c) (.int .i64 ((i : Int) + 1))).run Try.prog wr = .ok (.pointer (some (ad.add (i + 1)))) wr := by
          have hs1 : (sizeOf (Try.prog.elem 31)).run Try.prog wr = .ok 1 wr := by kernel_rfl
          rw [run_indexAt_slice (P := Try.prog) (w := wr) (t := 31) (a := ad) (len := n) (cap := c) (k := .i64) (i := (i : Int) + 1) (h := by kernel_rfl), if_pos (by omega), hs1]
          show Result.ok (Value.pointer (some (Addr.add _ _))) wr = _
          rw [show ((i : Int) + 1).toNat * 1 = i + 1 by omega]
        have hcu3 : wr.cell? { block := ad.block, off := ad.off + (i + 1) } = some (.int .i64 y) := hcu2
        clear hu hu2 hz hy hzd hyd hN hM hop hN2 hM2
        go_wp2_with fail
        refine (around_any z 16777216 _ hzr.1 hzr.2 (by omega) (by omega)).mono ?_
        rintro e w3 ⟨rfl, hw⟩
        subst hw
        rw [HN.out]
        go_wp2_with fail
        refine (around_any y 16777216 _ hyr.1 hyr.2 (by omega) (by omega)).mono ?_
        rintro e w3 ⟨rfl, hw⟩
        subst hw
        rw [HM.out]
        have HSC := Lib.hid hs.out
        clear hs
        obtain ⟨g1, hg1⟩ : ∃ g1, wr.heap.size = g1 := ⟨_, rfl⟩
        go_upto_region 7 with fail
        go_cut [9] from 10 to 89 (fun v wx => v = .pointer (some ⟨g1 + 1, 0, none⟩) ∧ Hid (OpW wr wx g1 0 (((N / 16 % 4 : Nat) : Int)) (((M % 64 : Nat) : Int)) (((M / 64 % 4 : Nat) : Int)) N M))
        case first =>
          go_wp2_with fail
          go_meet
          case rel =>
            subst hg1
            exact ⟨rfl, Lib.hid (OpW.start wr _ _ _ N M (by omega) (by omega) (by omega) trivial trivial)⟩
        case rest =>
          obtain ⟨rfl, H0⟩ := hcut
          go_upto_if 50 with fail
          go_cut [9] from 10 to 89 (fun v wx => v = .pointer (some ⟨g1 + 1, 0, none⟩) ∧ Hid (OpW wr wx g1 0 (((N / 16 % 4 : Nat) : Int)) (((M % 64 : Nat) : Int)) (waitOf M) N M))
          case first =>
            obtain ⟨k0, k1, k2, k3, k4, kf0, kf1, kf2, kf3, kf4⟩ := H0.out.cells
            have kl := H0.out.lt
            by_cases h97 : M % 97 = 0
            · have b97 : ((M : Int) % 97 == 0) = true := by rw [show (M : Int) % 97 = 0 by omega]; rfl
              go_wp2_with fail
              go_meet
              case rel => exact ⟨rfl, Lib.hid (by have := H0.out.setWait (-1); unfold waitOf; rw [if_pos h97]; exact this)⟩
            · have b97 : ((M : Int) % 97 == 0) = false := by rw [beq_eq_false_iff_ne]; omega
              go_wp2_with fail
              go_meet
              case rel => exact ⟨rfl, Lib.hid (by have := H0.out; unfold waitOf; rw [if_neg h97]; exact this)⟩
          case rest =>
            obtain ⟨rfl, H1⟩ := hcut
            go_upto_if 54 with fail
            go_cut [9] from 10 to 89 (fun v wx => v = .pointer (some ⟨g1 + 1, 0, none⟩) ∧ Hid (OpW wr wx g1 0 (workOf N) (((M % 64 : Nat) : Int)) (waitOf M) N M))
            case first =>
              obtain ⟨k0, k1, k2, k3, k4, kf0, kf1, kf2, kf3, kf4⟩ := H1.out.cells
              have kl := H1.out.lt
              by_cases h89 : N % 89 = 0
              · have b89 : ((N : Int) % 89 == 0) = true := by rw [show (N : Int) % 89 = 0 by omega]; rfl
                go_wp2_with fail
                go_meet
                case rel => exact ⟨rfl, Lib.hid (by have := H1.out.setWork 9; unfold workOf; rw [if_pos h89]; exact this)⟩
              · have b89 : ((N : Int) % 89 == 0) = false := by rw [beq_eq_false_iff_ne]; omega
                go_wp2_with fail
                go_meet
                case rel => exact ⟨rfl, Lib.hid (by have := H1.out; unfold workOf; rw [if_neg h89]; exact this)⟩
            case rest =>
              obtain ⟨rfl, H2⟩ := hcut
              obtain ⟨r, hr⟩ : ∃ r, N % 16 = r := ⟨_, rfl⟩
              have hr16 : r < 16 := by omega
              have hrI : (N : Int) % 16 = (r : Int) := by omega
              go_upto_block 2 with fail
              rw [hrI]
              go_cut [9] from 10 to 89 (fun v wx => v = .pointer (some ⟨g1 + 1, 0, none⟩) ∧ Hid (OpW wr wx g1 (kindOf r) (workOf N) (if r ≤ 3 then ((M % 13 : Nat) : Int) - 1 else ((M % 64 : Nat) : Int)) (waitOf M) N M))
              case first =>
                obtain ⟨k0, k1, k2, k3, k4, kf0, kf1, kf2, kf3, kf4⟩ := H2.out.cells
                have kl := H2.out.lt
                have hwM := wrapM13 M
                have h16 : ∀ r : Nat, r < 16 → r = 0 ∨ r = 1 ∨ r = 2 ∨ r = 3 ∨ r = 4 ∨ r = 5 ∨ r = 6 ∨ r = 7 ∨ r = 8 ∨ r = 9 ∨ r = 10 ∨ r = 11 ∨ r = 12 ∨ r = 13 ∨ r = 14 ∨ r = 15 := by decide
                clear hrI hr
                rcases h16 r hr16 with rfl | rfl | rfl | rfl | rfl | rfl | rfl | rfl | rfl | rfl | rfl | rfl | rfl | rfl | rfl | rfl
                · go_wp2_with fail
                  go_meet
                  case rel => exact ⟨rfl, Lib.hid ((H2.out.setKind 0).setN ((M : Int) % 13 - 1))⟩
                · go_wp2_with fail
                  go_meet
                  case rel => exact ⟨rfl, Lib.hid ((H2.out.setKind 0).setN ((M : Int) % 13 - 1))⟩
                · go_wp2_with fail
                  go_meet
                  case rel => exact ⟨rfl, Lib.hid ((H2.out.setKind 0).setN ((M : Int) % 13 - 1))⟩
                · go_wp2_with fail
                  go_meet
                  case rel => exact ⟨rfl, Lib.hid ((H2.out.setKind 0).setN ((M : Int) % 13 - 1))⟩
                · go_wp2_with fail
                  go_meet
                  case rel => exact ⟨rfl, Lib.hid (H2.out.setKind 1)⟩
                · go_wp2_with fail
                  go_meet
                  case rel => exact ⟨rfl, Lib.hid (H2.out.setKind 1)⟩
                · go_wp2_with fail
                  go_meet
                  case rel => exact ⟨rfl, Lib.hid (H2.out.setKind 1)⟩
                · go_wp2_with fail
                  go_meet
                  case rel => exact ⟨rfl, Lib.hid (H2.out.setKind 1)⟩
                · go_wp2_with fail
                  go_meet
                  case rel => exact ⟨rfl, Lib.hid (H2.out.setKind 1)⟩
                · go_wp2_with fail
                  go_meet
                  case rel => exact ⟨rfl, Lib.hid (H2.out.setKind 2)⟩
                · go_wp2_with fail
                  go_meet
                  case rel => exact ⟨rfl, Lib.hid (H2.out.setKind 2)⟩
                · go_wp2_with fail
                  go_meet
                  case rel => exact ⟨rfl, Lib.hid (H2.out.setKind 2)⟩
                · go_wp2_with fail
                  go_meet
                  case rel => exact ⟨rfl, Lib.hid (H2.out.setKind 2)⟩
                · go_wp2_with fail
                  go_meet
                  case rel => exact ⟨rfl, Lib.hid (H2.out.setKind 3)⟩
                · go_wp2_with fail
                  go_meet
                  case rel => exact ⟨rfl, Lib.hid (H2.out.setKind 3)⟩
                · go_wp2_with fail
                  go_meet
                  case rel => exact ⟨rfl, Lib.hid (H2.out.setKind 4)⟩
              case rest =>
                obtain ⟨rfl, H3⟩ := hcut
                rw [← hr] at H3
                obtain ⟨k0, k1, k2, k3, k4, kf0, kf1, kf2, kf3, kf4⟩ := H3.out.cells
                have kl := H3.out.lt
                obtain ⟨kd, hkd⟩ : ∃ z, kindOf (N % 16) = z := ⟨_, rfl⟩
                obtain ⟨wk, hwk⟩ : ∃ z, workOf N = z := ⟨_, rfl⟩
                obtain ⟨nn, hnn⟩ : ∃ z, (if N % 16 ≤ 3 then ((M % 13 : Nat) : Int) - 1 else ((M % 64 : Nat) : Int)) = z := ⟨_, rfl⟩
                obtain ⟨wt, hwt⟩ : ∃ z, waitOf M = z := ⟨_, rfl⟩
                rw [hkd, hwk, hnn, hwt] at H3 HOP
                rw [hkd] at k0
                rw [hwk] at k1
                rw [hnn] at k2
                rw [hwt] at k4
                obtain ⟨W5, hW5⟩ : ∃ W5, wc.alloc (.cells #[.int .i64 kd, .int .i64 wk, .int .i64 nn, .slice (some ⟨g1, 0, none⟩) 2 2, .int .i64 wt] 47) = W5 := ⟨_, rfl⟩
                have hn5 : New wc W5 := by rw [← hW5]; exact (Chg.refl _ _).alloc _
                have hs5 : ScrV W5 w.heap.size (.slice A1 j c1) (scrTo l j) := (HSC.out.1.new H3.out.new).new hn5
                have hj5 : (scrTo l j).length = j := scrTo_len l j
                have hlo : w.heap.size ≤ W5.heap.size := by have := HSC.out.2.size; have := H3.out.new.size; have := hn5.size; omega
                obtain ⟨v6, w6, hrun6, hs6, hch6⟩ := hs5.app (gb := wc.heap.size) (o := Pl.opAt l j) (cl := [.int .i64 kd, .int .i64 wk, .int .i64 nn, .slice (some ⟨g1, 0, none⟩) 2 2, .int .i64 wt]) hlo
                  (by rw [HOP.out]; exact ⟨some ⟨g1, 0, none⟩, 2, rfl, bytes2 (H3.out.by_.chg hn5 (fun h => h)), Nat.le_refl _, by simp [maxLen], fun k hk => by
                    injection hk with hk
                    have h1 := H3.out.ge
                    have h2 := HSC.out.2.size
                    have h3 := H3.out.by_.lt
                    have h4 := hn5.size
                    subst hk
                    refine ⟨by show g1 < _; omega, by show _ ≤ g1; omega, fun e => ?_⟩
                    have h5 := (HSC.out.1.lt e).2
                    have h6 : g1 < wr.heap.size := h5
                    omega⟩)
                  (fun j' u hu => by rw [← hW5]; exact (Blk.new wc _ _).cell j' (by simpa using hu)) (by omega)
                obtain ⟨A6, c6, hv6, _⟩ := hs6.shape
                rw [List.length_append, List.length_singleton, hj5] at hv6
                subst hv6
                have hs7 : ScrV w6 w.heap.size (.slice A6 (j + 1) c6) (scrTo l (j + 1)) := by rw [scrTo_succ]; exact hs6
                have hnw : New w w6 := ((HSC.out.2.trans H3.out.new (fun _ _ h => h)).trans hn5 (fun _ _ h => h)).trans hch6 (fun k hk e => by have := (HSC.out.1.lt e).1; omega)
                have HF := Lib.hid (And.intro hs7 hnw)
                clear hs6 hs7 hs5 hch6 hnw hn5 hlo hj5 hkd hwk hnn hwt hr hrI
                go_wp2_with (at_builtin; refine wpList_plain rfl fun Kq hKq => ?_; refine step_appN rfl _ _ _ rfl rfl rfl hrun6 (hKq _ _ ?_))
                exact ⟨⟨i + 2, j + 1, A6, c6, by have := HIJ.out; omega, by omega, by omega, rfl, rfl, HF⟩, by simp [intOf]; omega⟩
      · clear hij
        go_wp2_with fail
        go_ret
        exact HFIN.out (.inr (by omega))
    · clear hij
      go_wp2_with fail
      go_ret
      exact HFIN.out (.inl (by omega))
end Go.Proofs.Ytbmplfhcdkeooaa
