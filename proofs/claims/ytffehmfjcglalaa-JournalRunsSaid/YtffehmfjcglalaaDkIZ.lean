/- Contract of disk.invert. -/
import Derived.Test.YtffehmfjcglalaaDkHZ
set_option linter.unusedSimpArgs false
set_option linter.unusedVariables false
namespace Go.Proofs.Ytffehmfjcglalaa
set_option linter.unusedVariables false
open Go.RowKit Go.Mem Go.Dk

/-- The row's cell. -/
theorem RowV.cellAt {w : World} {t : TypeId} {C : Value → Prop} {g n c : Nat} {xs : List Value} (h : RowV w t C (.slice (some ⟨g, 0, none⟩) n c) xs) {p : Nat} {u : Value} (hp : xs[p]? = some u) : w.cell? ⟨g, p, none⟩ = some u ∧ w.frozen? ⟨g, p, none⟩ = false := by
  rcases h with ⟨hv, rfl⟩ | ⟨g', cp, rest, hv, h1, h2, h3, h4⟩
  · cases hv
  · injection hv with hA hn hc
    injection hA with hA
    injection hA with hA
    subst hA
    refine ⟨h3.cell p ?_, h3.frozen p⟩
    have := (List.getElem?_eq_some_iff.1 hp).1
    simpa [List.getElem?_append_left this] using hp
theorem pow_sh : ∀ k : Fin 8, (128 : Int) / 2 ^ k.val = ((2 ^ (7 - k.val) : Nat) : Int) := by decide
theorem pow_lt : ∀ k : Fin 8, 2 ^ (7 - k.val) < 256 := by decide
theorem turn_bits (x : UInt8) {k : Nat} (hk : k < 8) : bits .xor .u8 (x.toNat : Int) (128 / 2 ^ k) = ((x ^^^ UInt8.ofNat (2 ^ (7 - k))).toNat : Int) := by
  have h1 := pow_sh ⟨k, hk⟩
  have h2 := pow_lt ⟨k, hk⟩
  simp only at h1 h2
  have h3 := UInt8.toNat_lt x
  rw [h1, u8_xor_nat _ _ (by omega) h2, UInt8.toNat_xor, UInt8.toNat_ofNat']
  congr 2
  rw [Nat.mod_eq_of_lt h2]
theorem turn_bs {l : List UInt8} {p k : Nat} {x : UInt8} (h : l[p]? = some x) : (bs l).set p (By (x ^^^ UInt8.ofNat (2 ^ (7 - k)))) = bs (turn l p k) := by
  apply List.ext_getElem?
  intro j
  unfold bs turn
  rw [List.getElem?_map, List.getElem?_modify, List.getElem?_set]
  by_cases e : p = j
  · subst e
    obtain ⟨hp, hx⟩ := List.getElem?_eq_some_iff.1 h
    simp [h, hp, hx]
  · simp [e]
theorem ent_same {V : Nat → Value} {s : S} {i d : Nat} {l : List UInt8} (hi : i < 64) (hl : l ≠ []) (hf : s.f i ≠ []) (hd : s.firm i = d) : entL V (put s i l d) = entL V s := by
  refine (entL_rise _ _).ext_lk (entL_rise _ _) (fun k => ?_)
  rw [lk_entL, lk_entL]
  by_cases hn : 0 ≤ k
  · by_cases e : k.toNat = i
    · simp only [put, e, upd_same, hd]
      simp [hl, hf]
    · simp only [put, upd_other _ _ e]
  · rw [if_neg (fun h => hn h.1), if_neg (fun h => hn h.1)]
theorem inv_cons {s : S} {i b : Nat} {r : List Nat} : invert s (i :: r) b = if b < 8 * ((s.f i).length - s.firm i) then upd s.f i (turn (s.f i) (s.firm i + b / 8) (b % 8)) else invert s r (b - 8 * ((s.f i).length - s.firm i)) := rfl

set_option maxHeartbeats 2000000 in
set_option maxRecDepth 100000 in
theorem dInvert_any (g m : Nat) (V : Nat → Value) (s : S) (w : World) (h : DI w g m V s) (A : Option Addr) (N c : Nat) (r : List Nat) (hr : Rd w A N (is (r.map (fun i : Nat => (i : Int))))) (hr64 : ∀ i ∈ r, i < 64) (hN : N ≤ 64) (b : Nat) (hb : b ≤ 1000000000) :
    Calls Try.prog 43 #[.pointer (some ⟨g, 0, none⟩), .slice A N c, .int .i64 (b : Int)] w fun e w' => e = .returned (.tuple #[]) ∧
      DI w' g m V { s with f := invert s r b } ∧ Did w w' g m V V := by
  have HH := Lib.hid h
  have HR := Lib.hid hr
  have hrl : r.length = N := by have := hr.len; simpa using this
  have HL := Lib.hid hrl
  clear h hr hrl
  go_enter Try.func43, Try.ntmps43
  go_wp2
  go_loopw [2, 12] (fun v2 v wr => ∃ j q : Nat, j ≤ N ∧ v = .int .i64 (j : Int) ∧ v2 = .int .i64 (q : Int) ∧ q ≤ 1000000000 ∧ invert s r b = invert s (r.drop j) q ∧ New w wr) (fun _ v _ => N - (intOf v).toNat)
  case atStart => exact ⟨0, b, Nat.zero_le _, rfl, rfl, hb, by simp, Chg.refl _ _⟩
  case round =>
    obtain ⟨j, q, hj, rfl, rfl, hq, hinv, hnw⟩ := hrel
    have HI := Lib.hid hinv
    have HW := Lib.hid hnw
    by_cases hlt : j < N
    · obtain ⟨ad, u, rfl, hu, hcu⟩ := (HR.out.new hnw).at_ hlt
      obtain ⟨z, hz, rfl⟩ := is_at hu
      obtain ⟨i, hi1, rfl⟩ : ∃ i, r[j]? = some i ∧ z = (i : Int) := by
        rw [List.getElem?_map] at hz
        obtain ⟨i, h1, h2⟩ := Option.map_eq_some_iff.1 hz
        exact ⟨i, h1, h2.symm⟩
      have hi : i < 64 := hr64 i (List.mem_of_getElem? hi1)
      have hdi := HH.out.new hnw
      obtain ⟨A2, c2, hv, hnc, _⟩ := hdi.slice i
      obtain ⟨n, hn⟩ : ∃ n, (s.f i).length = n := ⟨_, rfl⟩
      obtain ⟨d, hd⟩ : ∃ d, s.firm i = d := ⟨_, rfl⟩
      have hdn := hdi.wf.firm i
      have hnl := hdi.wf.len i
      rw [hn, hd] at hdn
      rw [hn] at hv hnl hnc
      have hlk := hdi.core.look hdi.core.map hi hv hd
      have hb1 := hdi.core.blk.cell 1 (u := .map (some m)) rfl
      have hgl := hdi.core.blk.lt
      have HX := Lib.hid hdi
      have HV := Lib.hid hv
      have HD := Lib.hid hd
      have HN2 := Lib.hid hn
      have HI1 := Lib.hid hi1
      have hadl := cell_lt' hcu
      have hdrop : r.drop j = i :: r.drop (j + 1) := by
        have h1 := (List.getElem?_eq_some_iff.1 hi1)
        obtain ⟨h2, h3⟩ := h1
        rw [List.drop_eq_getElem_cons h2, h3]
      have HDR := Lib.hid hdrop
      clear hu hz hi1 hdi hv hd hn hinv hnw hdrop
      by_cases hbit : q < 8 * (n - d)
      · obtain ⟨p, hp⟩ : ∃ p, d + q / 8 = p := ⟨_, rfl⟩
        have hpn : p < n := by omega
        obtain ⟨x, hx⟩ : ∃ x, (s.f i)[p]? = some x := ⟨_, List.getElem?_eq_getElem (by rw [HN2.out]; exact hpn)⟩
        obtain ⟨gr, c3, hv3⟩ := RowV.full (HX.out.rows i) (fun e => by have h9 := HN2.out; rw [← bs_length, e] at h9; simp at h9; omega)
        rw [HV.out] at hv3
        injection hv3 with hA2 hn3 hc3
        subst hA2 hc3
        have hrow := HX.out.rows i
        rw [HV.out] at hrow
        obtain ⟨hcx, hfx⟩ := RowV.cellAt (p := p) (u := .int .u8 (x.toNat : Int)) hrow (by simp [bs, hx]; rfl)
        have htb := turn_bits x (show q % 8 < 8 by omega)
        have hgr := cell_lt' hcx
        have HP := Lib.hid hx
        have HRW := Lib.hid hrow
        have hq8 : ((q : Int).tdiv 8) = ((q / 8 : Nat) : Int) := by rw [Int.tdiv_eq_ediv_of_nonneg (by omega)]; rfl
        have hw1 : IntKind.i64.wrap ((q : Int).tdiv 8) = ((q / 8 : Nat) : Int) := by rw [hq8]; exact IntWalk.i64_in _ (by omega)
        have hw2 : IntKind.i64.wrap ((d : Int) + ((q / 8 : Nat) : Int)) = (p : Int) := by rw [IntWalk.i64_in _ (by omega)]; omega
        have hm8 : (q : Int).tmod 8 = ((q % 8 : Nat) : Int) := by rw [Int.tmod_eq_emod_of_nonneg (by omega)]; rfl
        obtain ⟨k, hk⟩ : ∃ k, q % 8 = k := ⟨_, rfl⟩
        have hk8 : k < 8 := by omega
        rw [hk] at hm8 htb
        clear hx hrow hn3
        subst hp
        go_wp2_with fail
        go_region
        have hset : RowV (wr.setCell ⟨gr, d + q / 8, none⟩ (.int .u8 ((x.toNat ^^^ 2 ^ (7 - k) % 256 : Nat) : Int))) 5 IsU8 (.slice (some ⟨gr, 0, none⟩) n c2) (bs (turn (s.f i) (d + q / 8) k)) := by
          have e1 : (Value.int .u8 ((x.toNat ^^^ 2 ^ (7 - k) % 256 : Nat) : Int)) = By (x ^^^ UInt8.ofNat (2 ^ (7 - k))) := by
            unfold By
            rw [UInt8.toNat_xor, UInt8.toNat_ofNat']
          have := RowV.st HRW.out (j := d + q / 8) (by rw [bs_length, HN2.out]; exact hpn) (u := By (x ^^^ UInt8.ofNat (2 ^ (7 - k)))) ⟨_, rfl⟩
          rw [e1, ← turn_bs HP.out]
          exact this
        obtain ⟨w5, hw5⟩ : ∃ w5, ((wr.setCell ⟨gr, d + q / 8, none⟩ (.int .u8 ((x.toNat ^^^ 2 ^ (7 - k) % 256 : Nat) : Int))).alloc (Obj.cells #[Value.slice (some ⟨gr, 0, none⟩) n c2, Value.int .i64 (d : Int)] 70)).drew = w5 := ⟨_, rfl⟩
        rw [hw5]
        have hn5 : New (wr.setCell ⟨gr, d + q / 8, none⟩ (.int .u8 ((x.toNat ^^^ 2 ^ (7 - k) % 256 : Nat) : Int))) w5 := by rw [← hw5]; exact ((Chg.refl _ _).alloc _).drew
        have hch : Chg (fun k => blkV (V i) = some k) wr w5 := by
          refine Chg.new ((Chg.refl (fun k => blkV (V i) = some k) wr).setCell (p := ⟨gr, d + q / 8, none⟩) (fun _ => ?_) _) hn5
          rw [HV.out]
          rfl
        have hdc := HX.out.core.chg hch (fun e => (HX.out.core.row_ne (HX.out.rows i) e).1 rfl) (fun e => (HX.out.core.row_ne (HX.out.rows i) e).2 rfl)
        have hne : turn (s.f i) (d + q / 8) k ≠ [] := fun e => by
          have := turn_len (s.f i) (d + q / 8) k
          rw [e, HN2.out] at this
          simp at this
          omega
        have hps : ({ s with f := invert s r b } : S) = put s i (turn (s.f i) (d + q / 8) k) d := by
          unfold put
          rw [HI.out, HDR.out, inv_cons, HN2.out, HD.out, if_pos hbit, hk]
          have := upd_self s.firm i
          rw [HD.out] at this
          rw [this]
        have hdc' : DC w5 g m (upd V i (V i)) (put s i (turn (s.f i) (d + q / 8) k) d) := by
          refine ⟨hdc.blk, ?_, fun j0 hj0 => ?_⟩
          · rw [upd_self]
            have : entL V (put s i (turn (s.f i) (d + q / 8) k) d) = entL V s := ent_same hi hne (fun e => by rw [e] at hne; exact hne (by simp [turn])) HD.out
            rw [this]
            exact hdc.map
          · rw [upd_self]
            by_cases e : j0 = i
            · subst e
              exact absurd (by simpa [put, upd_same] using hj0) hne
            · have := hdc.nil j0 (by simpa [put, upd_other _ _ e] using hj0)
              simpa [put, upd_other _ _ e] using this
        have hfin := HX.out.put_row (hch.mono (fun k _ e => .inr (.inr e))) hdc' (by rw [HV.out]; exact hset.new hn5) (fun k hk => .inl hk) (HX.out.wf.put hi (by rw [turn_len, HN2.out]; exact hdn) (by rw [turn_len]; have := HX.out.wf.used; omega))
        rw [upd_self, ← hps] at hfin
        have HFIN := Lib.hid (And.intro hfin.1 ((Did.of_new HW.out).trans hfin.2))
        clear hset hw5 hn5 hch hdc hne hps hdc' hfin
        go_wp2
        refine bodyPost_ret (results_none rfl _ _ _) rfl ?_
        exact ⟨rfl, HFIN.out.1, HFIN.out.2⟩
      · have hge : 8 * ((n : Int) - (d : Int)) = ((8 * (n - d) : Nat) : Int) := by omega
        go_wp2
        refine ⟨⟨j + 1, q - 8 * (n - d), by omega, by go_num, ?_, by omega, ?_, HW.out.alloc _⟩, ?_⟩
        · congr 1; omega
        · rw [HI.out, HDR.out, inv_cons, HN2.out, HD.out, if_neg hbit]
        · simp [intOf]; omega
    · obtain rfl : j = N := by omega
      go_wp2
      go_end0
      have : r.drop j = [] := List.drop_eq_nil_of_le (by rw [HL.out]; exact Nat.le_refl _)
      rw [HI.out, this]
      exact ⟨rfl, HH.out.new HW.out, Did.of_new HW.out⟩
end Go.Proofs.Ytffehmfjcglalaa
