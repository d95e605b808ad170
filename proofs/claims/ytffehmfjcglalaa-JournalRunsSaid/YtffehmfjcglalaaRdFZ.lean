/- The reference's disk: Crash. -/
import Derived.Test.YtffehmfjcglalaaRdEZ
import Derived.Deep.RegionLaw
import Derived.Deep.CutRange
import Derived.Deep.DeepCutAuto
import Derived.Test.YtffehmfjcglalaaHeld
set_option linter.unusedSimpArgs false
set_option linter.unusedVariables false
namespace Go.Dk
/-- Behind the files ahead of r: the bit a that is to be turned, the bytes. -/
def BitAt (s2 : S) (F : Nat → List UInt8) (r : List Nat) (a : Int) (fc : Nat → List UInt8) : Prop := (a < 0 ∧ fc = F) ∨ (0 ≤ a ∧ fc = s2.f ∧ invert s2 r a.toNat = F)
/-- In the file i, ahead of its byte k. -/
def BitIn (s2 : S) (F : Nat → List UInt8) (r : List Nat) (i n k : Nat) (a : Int) (fc : Nat → List UInt8) : Prop :=
  (a < 0 ∧ fc = F) ∨ (0 ≤ a ∧ fc = s2.f ∧ (if a.toNat < 8 * (n - k) then upd s2.f i (turn (s2.f i) (k + a.toNat / 8) (a.toNat % 8)) else invert s2 r (a.toNat - 8 * (n - k))) = F)
section
variable {s2 : S} {F fc : Nat → List UInt8} {r : List Nat} {i n k : Nat} {a : Int}
theorem BitAt.enter (h : BitAt s2 F (i :: r) a fc) (hn : (s2.f i).length = n) : BitIn s2 F r i n (s2.firm i) a fc := by
  rcases h with h | ⟨h1, h2, h3⟩
  · exact .inl h
  · refine .inr ⟨h1, h2, ?_⟩
    rw [← h3, ← hn]
    rfl
theorem BitIn.leave (h : BitIn s2 F r i n n a fc) : BitAt s2 F r a fc := by
  rcases h with h | ⟨h1, h2, h3⟩
  · exact .inl h
  · refine .inr ⟨h1, h2, ?_⟩
    rw [if_neg (by omega)] at h3
    rw [← h3]
    congr 1
    omega
theorem BitAt.done (h : BitAt s2 F [] a fc) : fc = F := by
  rcases h with h | ⟨h1, h2, h3⟩
  · exact h.2
  · rw [h2, ← h3]; rfl
theorem BitIn.past (h : BitIn s2 F r i n k a fc) (hk : k < n) (ha : a < 0 ∨ 8 ≤ a) : BitIn s2 F r i n (k + 1) (a - 8) fc := by
  rcases h with ⟨h1, h2⟩ | ⟨h1, h2, h3⟩
  · exact .inl ⟨by omega, h2⟩
  · refine .inr ⟨by omega, h2, ?_⟩
    rw [← h3]
    by_cases hb : a.toNat < 8 * (n - k)
    · rw [if_pos hb, if_pos (by omega), show k + 1 + (a - 8).toNat / 8 = k + a.toNat / 8 by omega, show (a - 8).toNat % 8 = a.toNat % 8 by omega]
    · rw [if_neg hb, if_neg (by omega), show (a - 8).toNat - 8 * (n - (k + 1)) = a.toNat - 8 * (n - k) by omega]
theorem BitIn.hit (h : BitIn s2 F r i n k a fc) (hk : k < n) (h0 : 0 ≤ a) (h8 : a < 8) : fc = s2.f ∧ F = upd s2.f i (turn (s2.f i) k a.toNat) := by
  rcases h with ⟨h1, h2⟩ | ⟨h1, h2, h3⟩
  · omega
  · refine ⟨h2, ?_⟩
    rw [← h3, if_pos (by omega), show k + a.toNat / 8 = k by omega, show a.toNat % 8 = a.toNat by omega]
end
theorem BitIn.len {s2 : S} {F fc : Nat → List UInt8} {r : List Nat} {i n k : Nat} {a : Int} (h : BitIn s2 F r i n k a fc) (hF : ∀ x, (F x).length = (s2.f x).length) (x : Nat) : (fc x).length = (s2.f x).length := by
  rcases h with ⟨_, rfl⟩ | ⟨_, rfl, _⟩
  · exact hF x
  · rfl
end Go.Dk
namespace Go.Proofs.Ytffehmfjcglalaa
set_option linter.unusedVariables false
open Go.RowKit Go.Mem Go.Dk

theorem wf_bytes {s : S} (h : WF s) {fc : Nat → List UInt8} (hl : ∀ x, (fc x).length = (s.f x).length) : WF { s with f := fc } := by
  refine ⟨fun i => by show s.firm i ≤ (fc i).length; rw [hl]; exact h.firm i, h.plan, h.room, ?_, fun i hi => ?_⟩
  · show usedN fc 64 ≤ s.room
    rw [usedN_congr hl]
    exact h.used
  · have h1 := hl i
    rw [h.far i hi] at h1
    exact List.eq_nil_of_length_eq_zero (by simpa using h1)
theorem turn_set {l : List UInt8} {p k : Nat} {x : UInt8} (h : l[p]? = some x) : turn l p k = l.set p (x ^^^ UInt8.ofNat (2 ^ (7 - k))) := by
  apply List.ext_getElem?
  intro j
  unfold turn
  rw [List.getElem?_modify, List.getElem?_set]
  by_cases e : p = j
  · subst e
    obtain ⟨hp, hx⟩ := List.getElem?_eq_some_iff.1 h
    simp [hp, hx]
  · simp [e]
/-- The same, its guard paid. -/
theorem step_appW {P : Program} {o : Oper} {a : Act} {K : Act → World → Prop} {Q : Exit → Act → World → Prop} {w w' : World} (hgd : o.guard = none) (s x : Operand) (t : TypeId) (ho : o.op = .call { callee := .builtin .append, args := #[s, x], argTypes := #[t, t] }) {v y v' : Value} (hsv : a.eval s = v) (hyv : a.eval x = y)
    (hrun : (Builtin.append_ #[t, t] o.type #[v, y]).run P w = .ok v' w') (h : K (a.put o.dst v') w') : Oper.wp P o a w K Q := by
  unfold Oper.wp execOp
  simp only [ho, resolve, invoke, builtin, Sem.run_bind, Sem.run_pure, Result.andThen_ok, List.map_toArray, List.map_cons, List.map_nil, hsv, hyv]
  rw [hrun]
  exact h
/-- A byte of a file is stored. -/
theorem RI.setByte {w : World} {g b f i p n c gr : Nat} {V : Nat → Value} {s : S} (h : RI w g b f V s) (hv : V i = .slice (some ⟨gr, 0, none⟩) n c) {l : List UInt8} {y : UInt8} (hp : p < (s.f i).length) (hl : l = (s.f i).set p y) : RI (w.setCell ⟨gr, p, none⟩ (By y)) g b f V { s with f := upd s.f i l } ∧ DidR w (w.setCell ⟨gr, p, none⟩ (By y)) g b f V V := by
  have hch := (Chg.refl (fun k => k = gr) w).setCell (p := ⟨gr, p, none⟩) (fun _ => rfl) (By y)
  have hgr : blkV (V i) = some gr := by rw [hv]; rfl
  obtain ⟨n1, n2, n3⟩ := h.core.row_ne (h.rows i) hgr
  have hrow := h.rows i
  rw [hv] at hrow
  have hset := RowV.st hrow (j := p) (by rw [bs_length]; exact hp) (u := By y) ⟨_, rfl⟩
  have hbs : (bs (s.f i)).set p (By y) = bs l := by rw [hl]; unfold bs; rw [List.map_set]
  rw [hbs] at hset
  refine ⟨⟨(h.core.chg hch n1.symm n2.symm n3.symm).firm rfl (fun _ _ => rfl), fun j => ?_, h.apart, wf_bytes h.wf (fun x => ?_)⟩, hch.mono (fun k _ e => .inr (.inr (.inr ⟨i, by rw [hgr, e]⟩))), fun k hk => .inl hk⟩
  · show RowV _ _ _ (V j) (bs (upd s.f i l j))
    by_cases e : j = i
    · subst e
      rw [upd_same, hv]
      exact hset
    · rw [upd_other _ _ e]
      exact (h.rows j).chg hch (fun k hk e2 => e (h.apart j i k hk (by rw [hgr, e2])))
  · unfold upd
    split
    · rename_i e
      rw [hl, e, List.length_set]
    · rfl
theorem bit_sh : ∀ k : Fin 8, (2 : Int) ^ (7 - k.val) = ((2 ^ (7 - k.val) : Nat) : Int) := by decide
theorem turn_bits2 (x : UInt8) {k : Nat} (hk : k < 8) : bits .xor .u8 (x.toNat : Int) ((2 ^ (7 - k) : Nat) : Int) = ((x ^^^ UInt8.ofNat (2 ^ (7 - k))).toNat : Int) := by
  have h2 := pow_lt ⟨k, hk⟩
  simp only at h2
  have h3 := UInt8.toNat_lt x
  rw [u8_xor_nat _ _ (by omega) h2, UInt8.toNat_xor, UInt8.toNat_ofNat']
  congr 2
  rw [Nat.mod_eq_of_lt h2]

theorem turn_bits3 (x : UInt8) {q : Nat} (hq : q < 8) : bits .xor .u8 (x.toNat : Int) ((2 : Int) ^ (7 - q) % 256) = ((x ^^^ UInt8.ofNat (2 ^ (7 - q))).toNat : Int) := by
  have h1 := bit_sh ⟨q, hq⟩
  have h2 := pow_lt ⟨q, hq⟩
  simp only at h1 h2
  rw [← turn_bits2 x hq, h1]
  congr 1
  obtain ⟨z, hz⟩ : ∃ z : Nat, 2 ^ (7 - q) = z := ⟨_, rfl⟩
  rw [hz] at h2 ⊢
  omega

set_option maxHeartbeats 4000000 in
set_option maxRecDepth 100000 in
theorem rCrash_any (g b f : Nat) (V : Nat → Value) (s : S) (w : World) (h : RI w g b f V s) (K : Option Addr) (nk ck : Nat) (keep : List Int) (hK : Rd w K nk (is keep)) (hKo : ∀ k, blk K = some k → ¬ ownR g b f V k ∧ k < w.heap.size) (hnk : nk ≤ 1000000000) (hkr : ∀ z ∈ keep, -9223372036854775808 ≤ z ∧ z ≤ 9223372036854775807) (flip : Int) (hfl : -9223372036854775808 ≤ flip ∧ flip ≤ 9223372036854775807) :
    Calls Try.prog 26 #[.pointer (some ⟨g, 0, none⟩), .slice K nk ck, .int .i64 flip] w fun e w' => e = .returned (.tuple #[]) ∧
      ∃ V', RI w' g b f V' (crash s keep flip) ∧ DidR w w' g b f V V' := by
  have HH := Lib.hid h
  have HK := Lib.hid hK
  have HKO := Lib.hid hKo
  have hkl : keep.length = nk := by have := hK.len; simpa using this
  have HKL := Lib.hid hkl
  obtain ⟨N, hN⟩ : ∃ N, (filesI s).length = N := ⟨_, rfl⟩
  have HN := Lib.hid hN
  have hN64 : N ≤ 64 := by rw [← hN]; unfold filesI; rw [List.length_map]; exact filesN_len s.f 64
  clear h hK hKo hkl hN
  go_enter Try.func26, Try.ntmps26
  go_wp2_with (go_at_call 47; refine (rFiles_any g b f V s _ HH.out).mono ?_; rw [HN.out]; rintro e w2 ⟨A, c, rfl, hown2, hn2⟩; have H2 := Lib.hid (And.intro hown2 hn2); clear hown2 hn2)
  have HD2 := Lib.hid (HH.out.new H2.out.2)
  have HA := Lib.hid (show ∀ k, blk A = some k → ¬ ownR g b f V k from fun k hk ho => by have := (own_blk_le H2.out.1 hk).1; have := HH.out.lt ho; omega)
  go_loopw [7, 8] (fun v7 v wr => ∃ (j : Nat) (V' : Nat → Value), j ≤ N ∧ v = .int .i64 (j : Int) ∧ v7 = .int .i64 ((manyTo s keep j : Nat) : Int) ∧ RI wr g b f V' (cutS s keep j) ∧ DidR w2 wr g b f V V') (fun _ v _ => N - (intOf v).toNat)
  case atStart => exact ⟨0, V, Nat.zero_le _, rfl, by rw [manyTo_zero]; rfl, by rw [cutS_zero]; exact HD2.out, DidR.of_new (Chg.refl _ _)⟩
  case round =>
    obtain ⟨j, V', hj, rfl, rfl, hdi, hdid⟩ := hrel
    by_cases hlt : j < N
    · obtain ⟨i, hi1, hi2, hi, hf⟩ := filesI_at (s := s) (j := j) (by rw [HN.out]; exact hlt)
      have hrd : Rd wr A N (is (filesI s)) := Rd.of_own (own_chg H2.out.1 hdid.chg HA.out)
      obtain ⟨ad, u, rfl, hu, hcu⟩ := hrd.at_ hlt
      obtain ⟨z, hz, rfl⟩ := is_at hu
      obtain rfl : z = (i : Int) := by rw [hi2] at hz; injection hz with hz; exact hz.symm
      obtain ⟨A2, c2, hv, hnc, _⟩ := hdi.slice i
      obtain ⟨n, hn⟩ : ∃ n, ((cutS s keep j).f i).length = n := ⟨_, rfl⟩
      obtain ⟨d, hd⟩ : ∃ d, (cutS s keep j).firm i = d := ⟨_, rfl⟩
      have hdn := hdi.wf.firm i
      have hnl := hdi.wf.len i
      rw [hn, hd] at hdn
      rw [hn] at hv hnl hnc
      obtain ⟨_, hb1, hb2, _, _⟩ := hdi.core.cc
      have hcb := hdi.core.cb hi
      rw [hv] at hcb
      have hcf := hdi.core.cf hi
      rw [hd] at hcf
      have hgl := hdi.core.blk.lt
      obtain ⟨q, hq⟩ : ∃ q, kept s keep i = q := ⟨_, rfl⟩
      have hfc := cutS_at (keep := keep) hi1
      have hqd : d + q ≤ n := by
        have h1 := kept_le s keep i
        have h2 : s.firm i = d := hd
        rw [← hfc, hn, h2, hq] at h1
        omega
      obtain ⟨bm, hbm⟩ : ∃ bm, manyTo s keep j = bm := ⟨_, rfl⟩
      have hbl : bm ≤ 16777216 := by have h1 := manyTo_le s keep j; have h2 := HH.out.wf.used; have h3 := HH.out.wf.room; omega
      have hrk : Rd wr K nk (is keep) := (HK.out.new H2.out.2).chg hdid.chg (fun k hk _ => (HKO.out k hk).1)
      have HKR := Lib.hid hrk
      have HX := Lib.hid hdi
      have HDD := Lib.hid hdid
      have HV := Lib.hid hv
      have HD := Lib.hid hd
      have HNn := Lib.hid hn
      have HI := Lib.hid (And.intro hi1 (And.intro hi hf))
      have HQ := Lib.hid hq
      have HBM := Lib.hid hbm
      have HFC := Lib.hid hfc
      have hadl := cell_lt' hcu
      have hka := kept_at (keep := keep) hi1
      rw [hq, ← hfc, hn, show s.firm i = d from hd] at hka
      rw [hbm]
      have hi2' : (0 : Int) ≤ (i : Int) := by omega
      have hi3' : (i : Int) < 64 := by omega
      have hi4' : (i : Int) < ((64 : Nat) : Int) := by omega
      obtain ⟨e, he⟩ : ∃ e, d + q = e := ⟨_, rfl⟩
      have HE := Lib.hid he
      have hen : e ≤ n := by omega
      have hec : (e : Int) ≤ (c2 : Int) := by omega
      have hwe : IntKind.i64.wrap ((d : Int) + (q : Int)) = (e : Int) := by rw [IntWalk.i64_in _ (by omega)]; omega
      have HAPP := Lib.hid (show ∀ w3, New wr w3 → ∃ A3 c3 w4, (Builtin.append_ #[33, 33] 33 #[.slice none 0 0, .slice A2 e c2]).run Try.prog w3 = .ok (.slice A3 e c3) w4 ∧ New wr w4 ∧ RowV w4 5 IsU8 (.slice A3 e c3) (bs (((cutS s keep j).f i).take e)) ∧ ∀ k, blkV (.slice A3 e c3) = some k → wr.heap.size ≤ k from fun w3 hw3 => by
        have hrow := HX.out.rows i
        rw [HV.out] at hrow
        have h1 := (RowV.pre hrow (k := e) (by rw [bs_length, HNn.out]; exact hen)).new hw3
        rw [bs_take] at h1
        obtain ⟨v3, w4, hrun, h2, h3, h4, _⟩ := RowV.app (P := Try.prog) (w := w3) (v := .slice none 0 0) (xs := []) elemB rfl ⟨0, rfl⟩ 33 33 (RowV.nil _ _ _) (src_rd (c := c2) Try.underlying33 h1.rd (bs_one _)) (bs_u8 _) (by simp; omega) (by simp; omega)
        obtain ⟨A3, c3, rfl, _⟩ := h2.shape
        have hl : ([] ++ bs (((cutS s keep j).f i).take e)).length = e := by rw [List.nil_append, bs_length, List.length_take, HNn.out]; omega
        rw [hl] at hrun h2 h4
        refine ⟨A3, c3, w4, hrun, hw3.trans (((Chg.refl _ w3).grown h3 (fun k hk _ => by cases hk)) : New w3 w4) (fun _ _ h => h), by simpa using h2, fun k hk => ?_⟩
        rcases h4 with e | ⟨e, _⟩
        · rw [e] at hk; cases hk
        · rw [e] at hk; injection hk with hk; have := hw3.size; omega)
      have HFIN := Lib.hid (show ∀ A3 c3 w4, New wr w4 → RowV w4 5 IsU8 (.slice A3 e c3) (bs (((cutS s keep j).f i).take e)) → (∀ k, blkV (.slice A3 e c3) = some k → wr.heap.size ≤ k) → RI (w4.setCell ⟨b, i, none⟩ (.slice A3 e c3)) g b f (upd V' i (.slice A3 e c3)) (cutS s keep (j + 1)) ∧ DidR w2 (w4.setCell ⟨b, i, none⟩ (.slice A3 e c3)) g b f V (upd V' i (.slice A3 e c3)) from fun A3 c3 w4 h1 h2 h3 => by
        have h4 := cutS_succ (keep := keep) HI.out.1
        rw [HQ.out, show s.firm i = d from HD.out, ← HFC.out, HE.out] at h4
        have h5 := HX.out.laid hi h1 h2 h3 (by rw [HD.out, ← h4]; exact HH.out.wf.cutS keep (j + 1))
        rw [HD.out, ← h4] at h5
        exact ⟨h5.1, HDD.out.trans h5.2⟩)
      clear he
      clear hrd hu hz hdi hdid hv hd hn hi1 hi2 hf hrk hfc hq hbm
      by_cases hjk : j < nk
      · obtain ⟨kd, ku, rfl, hku, hkc⟩ := HKR.out.at_ hjk
        obtain ⟨z1, hz1, rfl⟩ := is_at hku
        rw [hz1] at hka
        simp only at hka
        have hz64 := hkr z1 (List.mem_of_getElem? hz1)
        have hkdl := cell_lt' hkc
        have hwk : IntKind.i64.wrap ((n : Int) - (d : Int)) = (n : Int) - (d : Int) := IntWalk.i64_in _ (by omega)
        obtain ⟨m1, hm1⟩ : ∃ m1, min z1 ((n : Int) - (d : Int)) = m1 := ⟨_, rfl⟩
        have hmn := fun ts t W => run_min2 (P := Try.prog) z1 ((n : Int) - (d : Int)) m1 (by omega) ts t W
        have hmx := fun ts t W => run_max2 (P := Try.prog) 0 m1 (q : Int) (by omega) ts t W
        clear hku hz1 hka hm1
        go_wp2_with fail
        go_region_held3 (fun w1 => w1.cell? ⟨g, 1, none⟩ = some (.slice (some ⟨b, 0, none⟩) 64 64) ∧ w1.cell? ⟨g, 2, none⟩ = some (.slice (some ⟨f, 0, none⟩) 64 64) ∧ w1.cell? ⟨b, i, none⟩ = some (.slice A2 n c2) ∧ w1.cell? ⟨f, i, none⟩ = some (.int .i64 (d : Int)) ∧ w1.cell? (kd.add j) = some (.int .i64 z1)) (first | exact ⟨hb1, hb2, hcb, hcf, hkc⟩) (fail)
        go_wp2_with fail
        obtain ⟨A3, c3, w4, hrun4, hn4, hrow4, hbk4⟩ := HAPP.out wr.drew.drew ((Chg.refl _ _).drew.drew)
        have hri4 := (HX.out.new hn4).core
        have hcb4 := hri4.cb hi
        rw [HV.out] at hcb4
        have hfz4 := hri4.rb.frozen i
        have hg4 := hri4.cc
        have hcf4 := hri4.cf hi
        rw [HD.out] at hcf4
        have HF4 := Lib.hid (HFIN.out A3 c3 w4 hn4 hrow4 hbk4)
        have hcf5 := HF4.out.1.core.cf hi
        rw [show (cutS s keep (j + 1)).firm i = d from HD.out] at hcf5
        have hg5 := HF4.out.1.core.cc
        clear hri4 hn4 hrow4 hbk4 hmn hmx
        refine wp_region_held_drew (S := fun w' => w'.cell? ⟨g, 1, none⟩ = some (.slice (some ⟨b, 0, none⟩) 64 64) ∧ w'.cell? ⟨g, 2, none⟩ = some (.slice (some ⟨f, 0, none⟩) 64 64) ∧ w'.cell? ⟨f, i, none⟩ = some (.int .i64 (d : Int))) (by kernel_rfl) (⟨hb1, hb2, hcf⟩) (fun hHeld => ?_)
        refine heldW (i := 0) (v := ?av0) rfl (by kernel_rfl) (by kernel_rfl) (by kernel_rfl) (fun _ _ _ h => h) (by rfl) ?ahy0 hHeld ?arest0
        case ahy0 => (intro w hSw; (try dsimp only at hSw); go_simp; try with_reducible rfl)
        simp only [Act.put, List.setIfInBounds_toArray, List.set_cons_zero, List.set_cons_succ]
        refine heldW (i := 1) (v := ?av1) rfl (by kernel_rfl) (by kernel_rfl) (by kernel_rfl) (fun _ _ _ h => h) (by rfl) ?ahy1 hHeld ?arest1
        case ahy1 => (intro w hSw; (try dsimp only at hSw); go_simp; try with_reducible rfl)
        simp only [Act.put, List.setIfInBounds_toArray, List.set_cons_zero, List.set_cons_succ]
        refine heldW (i := 2) (v := ?av2) rfl (by kernel_rfl) (by kernel_rfl) (by kernel_rfl) (fun _ _ _ h => h) (by rfl) ?ahy2 hHeld ?arest2
        case ahy2 => (intro w hSw; (try dsimp only at hSw); go_simp; try with_reducible rfl)
        simp only [Act.put, List.setIfInBounds_toArray, List.set_cons_zero, List.set_cons_succ]
        refine heldW (i := 3) (v := ?av3) rfl (by kernel_rfl) (by kernel_rfl) (by kernel_rfl) (fun _ _ _ h => h) (by rfl) ?ahy3 hHeld ?arest3
        case ahy3 => (intro w hSw; (try dsimp only at hSw); go_simp; try with_reducible rfl)
        simp only [Act.put, List.setIfInBounds_toArray, List.set_cons_zero, List.set_cons_succ]
        refine heldW (i := 4) (v := ?av4) rfl (by kernel_rfl) (by kernel_rfl) (by kernel_rfl) (fun _ _ _ h => h) (by rfl) ?ahy4 hHeld ?arest4
        case ahy4 => (intro w hSw; (try dsimp only at hSw); go_simp; try with_reducible rfl)
        simp only [Act.put, List.setIfInBounds_toArray, List.set_cons_zero, List.set_cons_succ]
        refine heldW (i := 5) (v := ?av5) rfl (by kernel_rfl) (by kernel_rfl) (by kernel_rfl) (fun _ _ _ h => h) (by rfl) ?ahy5 hHeld ?arest5
        case ahy5 => (intro w hSw; (try dsimp only at hSw); go_simp; try with_reducible rfl)
        simp only [Act.put, List.setIfInBounds_toArray, List.set_cons_zero, List.set_cons_succ]
        refine heldW (i := 6) (v := ?av6) rfl (by kernel_rfl) (by kernel_rfl) (by kernel_rfl) (fun _ _ _ h => h) (by rfl) ?ahy6 hHeld ?arest6
        case ahy6 => (intro w hSw; (try dsimp only at hSw); go_simp; try with_reducible rfl)
        simp only [Act.put, List.setIfInBounds_toArray, List.set_cons_zero, List.set_cons_succ]
        refine heldW (i := 7) (v := ?av7) rfl (by kernel_rfl) (by kernel_rfl) (by kernel_rfl) (fun _ _ _ h => h) (by rfl) ?ahy7 hHeld ?arest7
        case ahy7 => (intro w hSw; (try dsimp only at hSw); go_simp; try with_reducible rfl)
        simp only [Act.put, List.setIfInBounds_toArray, List.set_cons_zero, List.set_cons_succ]
        refine heldW (i := 8) (v := ?av8) rfl (by kernel_rfl) (by kernel_rfl) (by kernel_rfl) (fun _ _ _ h => h) (by rfl) ?ahy8 hHeld ?arest8
        case ahy8 => (intro w hSw; (try dsimp only at hSw); go_simp; try with_reducible rfl)
        simp only [Act.put, List.setIfInBounds_toArray, List.set_cons_zero, List.set_cons_succ]
        refine heldW (i := 9) (v := ?av9) rfl (by kernel_rfl) (by kernel_rfl) (by kernel_rfl) (fun _ _ _ h => h) (by rfl) ?ahy9 hHeld ?arest9
        case ahy9 => (intro w hSw; (try dsimp only at hSw); go_simp; try with_reducible rfl)
        simp only [Act.put, List.setIfInBounds_toArray, List.set_cons_zero, List.set_cons_succ]
        refine heldW (i := 10) (v := ?av10) rfl (by kernel_rfl) (by kernel_rfl) (by kernel_rfl) (fun _ _ _ h => h) (by rfl) ?ahy10 hHeld ?arest10
        case ahy10 => (intro w hSw; (try dsimp only at hSw); go_simp; try with_reducible rfl)
        simp only [Act.put, List.setIfInBounds_toArray, List.set_cons_zero, List.set_cons_succ]
        refine heldW (i := 11) (v := ?av11) rfl (by kernel_rfl) (by kernel_rfl) (by kernel_rfl) (fun _ _ _ h => h) (by rfl) ?ahy11 hHeld ?arest11
        case ahy11 => (intro w hSw; (try dsimp only at hSw); go_simp; try with_reducible rfl)
        simp only [Act.put, List.setIfInBounds_toArray, List.set_cons_zero, List.set_cons_succ]
        refine heldW (i := 13) (v := ?av13) rfl (by kernel_rfl) (by kernel_rfl) (by kernel_rfl) (fun _ _ _ h => h) (by rfl) ?ahy13 hHeld ?arest13
        case ahy13 => (intro w hSw; (try dsimp only at hSw); go_simp; try with_reducible rfl)
        simp only [Act.put, List.setIfInBounds_toArray, List.set_cons_zero, List.set_cons_succ]
        refine heldW (i := 14) (v := ?av14) rfl (by kernel_rfl) (by kernel_rfl) (by kernel_rfl) (fun _ _ _ h => h) (by rfl) ?ahy14 hHeld ?arest14
        case ahy14 => (intro w hSw; (try dsimp only at hSw); go_simp; try with_reducible rfl)
        simp only [Act.put, List.setIfInBounds_toArray, List.set_cons_zero, List.set_cons_succ]
        refine heldW (i := 15) (v := ?av15) rfl (by kernel_rfl) (by kernel_rfl) (by kernel_rfl) (fun _ _ _ h => h) (by rfl) ?ahy15 hHeld ?arest15
        case ahy15 => (intro w hSw; (try dsimp only at hSw); go_simp; try with_reducible rfl)
        simp only [Act.put, List.setIfInBounds_toArray, List.set_cons_zero, List.set_cons_succ]
        refine heldW (i := 16) (v := ?av16) rfl (by kernel_rfl) (by kernel_rfl) (by kernel_rfl) (fun _ _ _ h => h) (by rfl) ?ahy16 hHeld ?arest16
        case ahy16 => (intro w hSw; (try dsimp only at hSw); go_simp; try with_reducible rfl)
        simp only [Act.put, List.setIfInBounds_toArray, List.set_cons_zero, List.set_cons_succ]
        refine heldW (i := 17) (v := ?av17) rfl (by kernel_rfl) (by kernel_rfl) (by kernel_rfl) (fun _ _ _ h => h) (by rfl) ?ahy17 hHeld ?arest17
        case ahy17 => (intro w hSw; (try dsimp only at hSw); go_simp; try with_reducible rfl)
        simp only [Act.put, List.setIfInBounds_toArray, List.set_cons_zero, List.set_cons_succ]
        refine heldW (i := 18) (v := ?av18) rfl (by kernel_rfl) (by kernel_rfl) (by kernel_rfl) (fun _ _ _ h => h) (by rfl) ?ahy18 hHeld ?arest18
        case ahy18 => (intro w hSw; (try dsimp only at hSw); go_simp; try with_reducible rfl)
        simp only [Act.put, List.setIfInBounds_toArray, List.set_cons_zero, List.set_cons_succ]
        refine heldW (i := 19) (v := ?av19) rfl (by kernel_rfl) (by kernel_rfl) (by kernel_rfl) (fun _ _ _ h => h) (by rfl) ?ahy19 hHeld ?arest19
        case ahy19 => (intro w hSw; (try dsimp only at hSw); go_simp; try with_reducible rfl)
        simp only [Act.put, List.setIfInBounds_toArray, List.set_cons_zero, List.set_cons_succ]
        refine heldW (i := 20) (v := ?av20) rfl (by kernel_rfl) (by kernel_rfl) (by kernel_rfl) (fun _ _ _ h => h) (by rfl) ?ahy20 hHeld ?arest20
        case ahy20 => (intro w hSw; (try dsimp only at hSw); go_simp; try with_reducible rfl)
        simp only [Act.put, List.setIfInBounds_toArray, List.set_cons_zero, List.set_cons_succ]
        refine heldW (i := 21) (v := ?av21) rfl (by kernel_rfl) (by kernel_rfl) (by kernel_rfl) (fun _ _ _ h => h) (by rfl) ?ahy21 hHeld ?arest21
        case ahy21 => (intro w hSw; (try dsimp only at hSw); go_simp; try with_reducible rfl)
        simp only [Act.put, List.setIfInBounds_toArray, List.set_cons_zero, List.set_cons_succ]
        refine heldC (i := 12) rfl (by kernel_rfl) (by rfl) (fun K hK => ?_)
        go_simp
        refine hK.out _ _ (hHeld) (fun hHeld2 => ?_)
        clear hK K hHeld
        have hHeld := hHeld2
        clear hHeld2
        (try simp only [Act.put, List.setIfInBounds_toArray, List.set_cons_zero, List.set_cons_succ])
        refine heldW (i := 22) (v := ?av22) rfl (by kernel_rfl) (by kernel_rfl) (by kernel_rfl) (fun _ _ _ h => h) (by rfl) ?ahy22 hHeld ?arest22
        case ahy22 => (intro w hSw; (try dsimp only at hSw); go_simp; try with_reducible rfl)
        simp only [Act.put, List.setIfInBounds_toArray, List.set_cons_zero, List.set_cons_succ]
        refine heldC (i := 23) rfl (by kernel_rfl) (by rfl) (fun K hK => ?_)
        refine step_appW rfl _ _ _ rfl rfl rfl hrun4 ?_
        refine hK.out _ _ (⟨hg4.2.1, hg4.2.2.1, hcf4⟩) (fun hHeld2 => ?_)
        clear hK K hHeld
        have hHeld := hHeld2
        clear hHeld2
        (try simp only [Act.put, List.setIfInBounds_toArray, List.set_cons_zero, List.set_cons_succ])
        refine heldW (i := 24) (v := ?av24) rfl (by kernel_rfl) (by kernel_rfl) (by kernel_rfl) (fun _ _ _ h => h) (by rfl) ?ahy24 hHeld ?arest24
        case ahy24 => (intro w hSw; (try dsimp only at hSw); go_simp; try with_reducible rfl)
        simp only [Act.put, List.setIfInBounds_toArray, List.set_cons_zero, List.set_cons_succ]
        refine wpAnyH_ready (rs := [25]) (by kernel_rfl) (by simp) (AllReadyH.cons rfl (fun K hK => ?_) AllReadyH.nil)
        go_simp
        refine hK.out _ _ (⟨hg5.2.1, hg5.2.2.1, hcf5⟩) (fun hHeld2 => ?_)
        clear hK K hHeld
        have hHeld := hHeld2
        clear hHeld2
        (try simp only [Act.put, List.setIfInBounds_toArray, List.set_cons_zero, List.set_cons_succ])
        refine wpAnyH_done (by kernel_rfl) ?_ _
        go_wp2
        go_roundw
        case rel => exact ⟨j + 1, _, by omega, by go_num, by rw [manyTo_succ HI.out.1, HBM.out, HQ.out]; go_num, HF4.out.1, HF4.out.2⟩
        case measure => simp [intOf]; omega
      · have hq0 : q = 0 := by
          rw [List.getElem?_eq_none (by rw [HKL.out]; omega)] at hka
          exact hka
        subst hq0
        have hde : d = e := by have := HE.out; omega
        have hwe3 : IntKind.i64.wrap (d : Int) = (e : Int) := by rw [IntWalk.i64_in _ (by omega), hde]
        clear hka hde
        go_wp2_with fail
        obtain ⟨A3, c3, w4, hrun4, hn4, hrow4, hbk4⟩ := HAPP.out wr.drew ((Chg.refl _ _).drew)
        have hri4 := (HX.out.new hn4).core
        have hcb4 := hri4.cb hi
        rw [HV.out] at hcb4
        have hfz4 := hri4.rb.frozen i
        have hg4 := hri4.cc
        have hcf4 := hri4.cf hi
        rw [HD.out] at hcf4
        have HF4 := Lib.hid (HFIN.out A3 c3 w4 hn4 hrow4 hbk4)
        have hcf5 := HF4.out.1.core.cf hi
        rw [show (cutS s keep (j + 1)).firm i = d from HD.out] at hcf5
        have hg5 := HF4.out.1.core.cc
        clear hri4 hn4 hrow4 hbk4
        refine wp_region_held_drew (S := fun w' => w'.cell? ⟨g, 1, none⟩ = some (.slice (some ⟨b, 0, none⟩) 64 64) ∧ w'.cell? ⟨g, 2, none⟩ = some (.slice (some ⟨f, 0, none⟩) 64 64) ∧ w'.cell? ⟨f, i, none⟩ = some (.int .i64 (d : Int))) (by kernel_rfl) (⟨hb1, hb2, hcf⟩) (fun hHeld => ?_)
        refine heldW (i := 0) (v := ?bv0) rfl (by kernel_rfl) (by kernel_rfl) (by kernel_rfl) (fun _ _ _ h => h) (by rfl) ?bhy0 hHeld ?brest0
        case bhy0 => (intro w hSw; (try dsimp only at hSw); go_simp; try with_reducible rfl)
        simp only [Act.put, List.setIfInBounds_toArray, List.set_cons_zero, List.set_cons_succ]
        refine heldW (i := 1) (v := ?bv1) rfl (by kernel_rfl) (by kernel_rfl) (by kernel_rfl) (fun _ _ _ h => h) (by rfl) ?bhy1 hHeld ?brest1
        case bhy1 => (intro w hSw; (try dsimp only at hSw); go_simp; try with_reducible rfl)
        simp only [Act.put, List.setIfInBounds_toArray, List.set_cons_zero, List.set_cons_succ]
        refine heldW (i := 2) (v := ?bv2) rfl (by kernel_rfl) (by kernel_rfl) (by kernel_rfl) (fun _ _ _ h => h) (by rfl) ?bhy2 hHeld ?brest2
        case bhy2 => (intro w hSw; (try dsimp only at hSw); go_simp; try with_reducible rfl)
        simp only [Act.put, List.setIfInBounds_toArray, List.set_cons_zero, List.set_cons_succ]
        refine heldW (i := 3) (v := ?bv3) rfl (by kernel_rfl) (by kernel_rfl) (by kernel_rfl) (fun _ _ _ h => h) (by rfl) ?bhy3 hHeld ?brest3
        case bhy3 => (intro w hSw; (try dsimp only at hSw); go_simp; try with_reducible rfl)
        simp only [Act.put, List.setIfInBounds_toArray, List.set_cons_zero, List.set_cons_succ]
        refine heldW (i := 4) (v := ?bv4) rfl (by kernel_rfl) (by kernel_rfl) (by kernel_rfl) (fun _ _ _ h => h) (by rfl) ?bhy4 hHeld ?brest4
        case bhy4 => (intro w hSw; (try dsimp only at hSw); go_simp; try with_reducible rfl)
        simp only [Act.put, List.setIfInBounds_toArray, List.set_cons_zero, List.set_cons_succ]
        refine heldW (i := 5) (v := ?bv5) rfl (by kernel_rfl) (by kernel_rfl) (by kernel_rfl) (fun _ _ _ h => h) (by rfl) ?bhy5 hHeld ?brest5
        case bhy5 => (intro w hSw; (try dsimp only at hSw); go_simp; try with_reducible rfl)
        simp only [Act.put, List.setIfInBounds_toArray, List.set_cons_zero, List.set_cons_succ]
        refine heldW (i := 6) (v := ?bv6) rfl (by kernel_rfl) (by kernel_rfl) (by kernel_rfl) (fun _ _ _ h => h) (by rfl) ?bhy6 hHeld ?brest6
        case bhy6 => (intro w hSw; (try dsimp only at hSw); go_simp; try with_reducible rfl)
        simp only [Act.put, List.setIfInBounds_toArray, List.set_cons_zero, List.set_cons_succ]
        refine heldW (i := 7) (v := ?bv7) rfl (by kernel_rfl) (by kernel_rfl) (by kernel_rfl) (fun _ _ _ h => h) (by rfl) ?bhy7 hHeld ?brest7
        case bhy7 => (intro w hSw; (try dsimp only at hSw); go_simp; try with_reducible rfl)
        simp only [Act.put, List.setIfInBounds_toArray, List.set_cons_zero, List.set_cons_succ]
        refine heldW (i := 8) (v := ?bv8) rfl (by kernel_rfl) (by kernel_rfl) (by kernel_rfl) (fun _ _ _ h => h) (by rfl) ?bhy8 hHeld ?brest8
        case bhy8 => (intro w hSw; (try dsimp only at hSw); go_simp; try with_reducible rfl)
        simp only [Act.put, List.setIfInBounds_toArray, List.set_cons_zero, List.set_cons_succ]
        refine heldW (i := 9) (v := ?bv9) rfl (by kernel_rfl) (by kernel_rfl) (by kernel_rfl) (fun _ _ _ h => h) (by rfl) ?bhy9 hHeld ?brest9
        case bhy9 => (intro w hSw; (try dsimp only at hSw); go_simp; try with_reducible rfl)
        simp only [Act.put, List.setIfInBounds_toArray, List.set_cons_zero, List.set_cons_succ]
        refine heldW (i := 10) (v := ?bv10) rfl (by kernel_rfl) (by kernel_rfl) (by kernel_rfl) (fun _ _ _ h => h) (by rfl) ?bhy10 hHeld ?brest10
        case bhy10 => (intro w hSw; (try dsimp only at hSw); go_simp; try with_reducible rfl)
        simp only [Act.put, List.setIfInBounds_toArray, List.set_cons_zero, List.set_cons_succ]
        refine heldW (i := 11) (v := ?bv11) rfl (by kernel_rfl) (by kernel_rfl) (by kernel_rfl) (fun _ _ _ h => h) (by rfl) ?bhy11 hHeld ?brest11
        case bhy11 => (intro w hSw; (try dsimp only at hSw); go_simp; try with_reducible rfl)
        simp only [Act.put, List.setIfInBounds_toArray, List.set_cons_zero, List.set_cons_succ]
        refine heldW (i := 13) (v := ?bv13) rfl (by kernel_rfl) (by kernel_rfl) (by kernel_rfl) (fun _ _ _ h => h) (by rfl) ?bhy13 hHeld ?brest13
        case bhy13 => (intro w hSw; (try dsimp only at hSw); go_simp; try with_reducible rfl)
        simp only [Act.put, List.setIfInBounds_toArray, List.set_cons_zero, List.set_cons_succ]
        refine heldW (i := 14) (v := ?bv14) rfl (by kernel_rfl) (by kernel_rfl) (by kernel_rfl) (fun _ _ _ h => h) (by rfl) ?bhy14 hHeld ?brest14
        case bhy14 => (intro w hSw; (try dsimp only at hSw); go_simp; try with_reducible rfl)
        simp only [Act.put, List.setIfInBounds_toArray, List.set_cons_zero, List.set_cons_succ]
        refine heldW (i := 15) (v := ?bv15) rfl (by kernel_rfl) (by kernel_rfl) (by kernel_rfl) (fun _ _ _ h => h) (by rfl) ?bhy15 hHeld ?brest15
        case bhy15 => (intro w hSw; (try dsimp only at hSw); go_simp; try with_reducible rfl)
        simp only [Act.put, List.setIfInBounds_toArray, List.set_cons_zero, List.set_cons_succ]
        refine heldW (i := 16) (v := ?bv16) rfl (by kernel_rfl) (by kernel_rfl) (by kernel_rfl) (fun _ _ _ h => h) (by rfl) ?bhy16 hHeld ?brest16
        case bhy16 => (intro w hSw; (try dsimp only at hSw); go_simp; try with_reducible rfl)
        simp only [Act.put, List.setIfInBounds_toArray, List.set_cons_zero, List.set_cons_succ]
        refine heldW (i := 17) (v := ?bv17) rfl (by kernel_rfl) (by kernel_rfl) (by kernel_rfl) (fun _ _ _ h => h) (by rfl) ?bhy17 hHeld ?brest17
        case bhy17 => (intro w hSw; (try dsimp only at hSw); go_simp; try with_reducible rfl)
        simp only [Act.put, List.setIfInBounds_toArray, List.set_cons_zero, List.set_cons_succ]
        refine heldW (i := 18) (v := ?bv18) rfl (by kernel_rfl) (by kernel_rfl) (by kernel_rfl) (fun _ _ _ h => h) (by rfl) ?bhy18 hHeld ?brest18
        case bhy18 => (intro w hSw; (try dsimp only at hSw); go_simp; try with_reducible rfl)
        simp only [Act.put, List.setIfInBounds_toArray, List.set_cons_zero, List.set_cons_succ]
        refine heldW (i := 19) (v := ?bv19) rfl (by kernel_rfl) (by kernel_rfl) (by kernel_rfl) (fun _ _ _ h => h) (by rfl) ?bhy19 hHeld ?brest19
        case bhy19 => (intro w hSw; (try dsimp only at hSw); go_simp; try with_reducible rfl)
        simp only [Act.put, List.setIfInBounds_toArray, List.set_cons_zero, List.set_cons_succ]
        refine heldW (i := 20) (v := ?bv20) rfl (by kernel_rfl) (by kernel_rfl) (by kernel_rfl) (fun _ _ _ h => h) (by rfl) ?bhy20 hHeld ?brest20
        case bhy20 => (intro w hSw; (try dsimp only at hSw); go_simp; try with_reducible rfl)
        simp only [Act.put, List.setIfInBounds_toArray, List.set_cons_zero, List.set_cons_succ]
        refine heldW (i := 21) (v := ?bv21) rfl (by kernel_rfl) (by kernel_rfl) (by kernel_rfl) (fun _ _ _ h => h) (by rfl) ?bhy21 hHeld ?brest21
        case bhy21 => (intro w hSw; (try dsimp only at hSw); go_simp; try with_reducible rfl)
        simp only [Act.put, List.setIfInBounds_toArray, List.set_cons_zero, List.set_cons_succ]
        refine heldC (i := 12) rfl (by kernel_rfl) (by rfl) (fun K hK => ?_)
        go_simp
        refine hK.out _ _ (hHeld) (fun hHeld2 => ?_)
        clear hK K hHeld
        have hHeld := hHeld2
        clear hHeld2
        (try simp only [Act.put, List.setIfInBounds_toArray, List.set_cons_zero, List.set_cons_succ])
        refine heldW (i := 22) (v := ?bv22) rfl (by kernel_rfl) (by kernel_rfl) (by kernel_rfl) (fun _ _ _ h => h) (by rfl) ?bhy22 hHeld ?brest22
        case bhy22 => (intro w hSw; (try dsimp only at hSw); go_simp; try with_reducible rfl)
        simp only [Act.put, List.setIfInBounds_toArray, List.set_cons_zero, List.set_cons_succ]
        refine heldC (i := 23) rfl (by kernel_rfl) (by rfl) (fun K hK => ?_)
        refine step_appW rfl _ _ _ rfl rfl rfl hrun4 ?_
        refine hK.out _ _ (⟨hg4.2.1, hg4.2.2.1, hcf4⟩) (fun hHeld2 => ?_)
        clear hK K hHeld
        have hHeld := hHeld2
        clear hHeld2
        (try simp only [Act.put, List.setIfInBounds_toArray, List.set_cons_zero, List.set_cons_succ])
        refine heldW (i := 24) (v := ?bv24) rfl (by kernel_rfl) (by kernel_rfl) (by kernel_rfl) (fun _ _ _ h => h) (by rfl) ?bhy24 hHeld ?brest24
        case bhy24 => (intro w hSw; (try dsimp only at hSw); go_simp; try with_reducible rfl)
        simp only [Act.put, List.setIfInBounds_toArray, List.set_cons_zero, List.set_cons_succ]
        refine wpAnyH_ready (rs := [25]) (by kernel_rfl) (by simp) (AllReadyH.cons rfl (fun K hK => ?_) AllReadyH.nil)
        go_simp
        refine hK.out _ _ (⟨hg5.2.1, hg5.2.2.1, hcf5⟩) (fun hHeld2 => ?_)
        clear hK K hHeld
        have hHeld := hHeld2
        clear hHeld2
        (try simp only [Act.put, List.setIfInBounds_toArray, List.set_cons_zero, List.set_cons_succ])
        refine wpAnyH_done (by kernel_rfl) ?_ _
        go_wp2
        go_roundw
        case rel => exact ⟨j + 1, _, by omega, by go_num, by rw [manyTo_succ HI.out.1, HBM.out, HQ.out]; go_num, HF4.out.1, HF4.out.2⟩
        case measure => simp [intOf]; omega
    · obtain rfl : j = N := by omega
      have hfl1 : (files s).length = j := by rw [← HN.out]; unfold filesI; rw [List.length_map]
      have hcut : cutS s keep j = cut s keep := by unfold cutS cut; rw [hfl1]
      have hmany : manyTo s keep j = many s keep := by unfold many; rw [hfl1]
      rw [hcut] at hdi
      obtain ⟨M, hM⟩ : ∃ M, many s keep = M := ⟨_, rfl⟩
      have hMl : M ≤ 16777216 := by have h1 := manyTo_le s keep j; have h2 := HH.out.wf.used; have h3 := HH.out.wf.room; omega
      rw [hmany, hM]
      obtain ⟨F, hF⟩ : ∃ F, (turned s keep flip).f = F := ⟨_, rfl⟩
      have hFlen : ∀ x, (F x).length = ((cut s keep).f x).length := fun x => by
        rw [← hF]
        unfold turned
        split
        · exact invert_len _ _ _ _
        · rfl
      have HX := Lib.hid hdi
      have HDD := Lib.hid hdid
      have HM := Lib.hid hM
      have HF := Lib.hid hF
      have HFL := Lib.hid hFlen
      have HFN := Lib.hid hfl1
      have hrd : Rd wr A j (is (filesI s)) := Rd.of_own (own_chg H2.out.1 hdid.chg HA.out)
      have HRD := Lib.hid hrd
      clear hdi hdid hM hF hfl1 hcut hmany hrd hFlen
      go_upto_region 12 with fail
      iterate 8 go_step
      go_cut [12] (fun v wc => ∃ a : Int, v = .int .i64 a ∧ -1 ≤ a ∧ a < 268435456 ∧ Hid (BitAt (cut s keep) F (files s) a (cut s keep).f) ∧ Hid (New wr wc))
      case first =>
        by_cases hf0 : 0 ≤ flip
        · by_cases hm0 : 0 < M
          · obtain ⟨fl, rfl⟩ := Int.eq_ofNat_of_zero_le hf0
            obtain ⟨b8, hb8e⟩ : ∃ b8, 8 * M = b8 := ⟨_, rfl⟩
            have hw8 : IntKind.i64.wrap (8 * (M : Int)) = 8 * (M : Int) := IntWalk.i64_in _ (by omega)
            have hmod : fl % b8 < b8 := Nat.mod_lt _ (by omega)
            have hb8l : b8 ≤ 134217728 := by omega
            have he8 : 8 * (M : Int) = (b8 : Int) := by omega
            have htm : (fl : Int).tmod (8 * (M : Int)) = ((fl % b8 : Nat) : Int) := by rw [he8, Int.tmod_eq_emod_of_nonneg (by omega)]; rfl
            have hrem : ((fl : Int) % (8 * (M : Int))) = ((fl % b8 : Nat) : Int) := by rw [he8]; rfl
            have hb0' : ((8 * (M : Int)) == 0) = false := by simp; omega
            have hb0 : ¬ 8 * (M : Int) = 0 := by omega
            have HB := Lib.hid (show BitAt (cut s keep) F (files s) ((fl % b8 : Nat) : Int) (cut s keep).f from .inr ⟨by omega, rfl, by
              rw [← HF.out]
              unfold turned
              rw [if_pos ⟨hf0, by rw [HM.out]; exact hm0⟩, HM.out, hb8e]
              rfl⟩)
            clear hb8e he8
            obtain ⟨a0, ha0⟩ : ∃ a0, fl % b8 = a0 := ⟨_, rfl⟩
            rw [ha0] at HB htm hrem hmod
            clear ha0
            go_wp2
            go_meet
            case rel => exact ⟨(a0 : Int), rfl, by omega, by omega, HB, Lib.hid (Chg.refl _ _)⟩
          · have HB := Lib.hid (show BitAt (cut s keep) F (files s) (-1) (cut s keep).f from .inl ⟨by omega, by
              rw [← HF.out]
              unfold turned
              rw [if_neg (by rw [HM.out]; omega)]⟩)
            have hM0 : M = 0 := by omega
            subst hM0
            go_wp2
            go_meet
            case rel => exact ⟨-1, rfl, by omega, by omega, HB, Lib.hid (Chg.refl _ _)⟩
        · have HB := Lib.hid (show BitAt (cut s keep) F (files s) (-1) (cut s keep).f from .inl ⟨by omega, by
            rw [← HF.out]
            unfold turned
            rw [if_neg (by omega)]⟩)
          go_wp2
          go_meet
          case rel => exact ⟨-1, rfl, by omega, by omega, HB, Lib.hid (Chg.refl _ _)⟩
      case rest =>
        obtain ⟨a0, rfl, ha1, ha2, HBT, HNW⟩ := hcut
        have HXC := Lib.hid (HX.out.new HNW.out)
        have HDC := Lib.hid (HDD.out.trans (DidR.of_new HNW.out))
        go_wp2
        go_loopw [13, 12] (fun v13 v12 wr => ∃ (j5 : Nat) (a : Int) (fc : Nat → List UInt8), j5 ≤ j ∧ v13 = .int .i64 (j5 : Int) ∧ v12 = .int .i64 a ∧ Hid (BitAt (cut s keep) F ((files s).drop j5) a fc) ∧ -(134217728 * (j5 : Int)) - 1 ≤ a ∧ a < 268435456 ∧ Hid (RI wr g b f V' { cut s keep with f := fc }) ∧ Hid (DidR w2 wr g b f V V')) (fun v _ _ => j - (intOf v).toNat)
        case atStart => exact ⟨0, a0, _, Nat.zero_le _, rfl, rfl, HBT, by omega, ha2, HXC, HDC⟩
        case round =>
          obtain ⟨j5, a, fc, hj5, rfl, rfl, HBA, hal, hau, HR, HD5⟩ := hrel
          by_cases hlt5 : j5 < j
          · obtain ⟨i, hi1, hi2, hi, hf⟩ := filesI_at (s := s) (j := j5) (by rw [HN.out]; exact hlt5)
            have hrd : Rd wr A j (is (filesI s)) := Rd.of_own (own_chg H2.out.1 HD5.out.chg HA.out)
            obtain ⟨ad, u, rfl, hu, hcu⟩ := hrd.at_ hlt5
            obtain ⟨z, hz, rfl⟩ := is_at hu
            obtain rfl : z = (i : Int) := by rw [hi2] at hz; injection hz with hz; exact hz.symm
            have hdrop : (files s).drop j5 = i :: (files s).drop (j5 + 1) := by
              obtain ⟨h2, h3⟩ := List.getElem?_eq_some_iff.1 hi1
              rw [List.drop_eq_getElem_cons h2, h3]
            obtain ⟨n, hn⟩ : ∃ n, ((cut s keep).f i).length = n := ⟨_, rfl⟩
            obtain ⟨d, hd⟩ : ∃ d, (cut s keep).firm i = d := ⟨_, rfl⟩
            have hdn := HX.out.wf.firm i
            have hnl := HX.out.wf.len i
            rw [hn] at hnl
            rw [hn, hd] at hdn
            obtain ⟨R, hR⟩ : ∃ R, (files s).drop (j5 + 1) = R := ⟨_, rfl⟩
            rw [hR] at hdrop
            have HBI := Lib.hid (hd ▸ (BitAt.enter (hdrop ▸ HBA.out) hn))
            have HRR := Lib.hid hR
            obtain ⟨_, hb1, hb2, _, _⟩ := HR.out.core.cc
            have hcf := HR.out.core.cf hi
            rw [show ({ cut s keep with f := fc } : S).firm i = d from hd] at hcf
            have hgl := HR.out.core.blk.lt
            have hadl := cell_lt' hcu
            have HNn := Lib.hid hn
            have hi2' : (0 : Int) ≤ (i : Int) := by omega
            have hi3' : (i : Int) < 64 := by omega
            have hi4' : (i : Int) < ((64 : Nat) : Int) := by omega
            clear hrd hu hz hi1 hi2 hf hdrop hn hd hR HBA
            go_wp2_with fail
            go_loopw [15, 12] (fun v15 v12 wr2 => ∃ (k : Nat) (a : Int) (fc : Nat → List UInt8), k ≤ n ∧ v15 = .int .i64 (k : Int) ∧ v12 = .int .i64 a ∧ Hid (BitIn (cut s keep) F R i n k a fc) ∧ -(134217728 * (j5 : Int)) - 1 - 8 * (k : Int) ≤ a ∧ a < 268435456 ∧ Hid (RI wr2 g b f V' { cut s keep with f := fc }) ∧ Hid (DidR w2 wr2 g b f V V')) (fun v _ _ => n - (intOf v).toNat)
            case atStart => exact ⟨d, a, fc, hdn, rfl, rfl, HBI, by omega, hau, HR, HD5⟩
            case round =>
              clear hb1 hb2 hcf hcu hal hau HBI HR HD5 hgl hadl
              rename_i wq
              obtain ⟨k, a, fc, hk, rfl, rfl, HBI, hal, hau, HR, HD5⟩ := hrel
              have hfl := HBI.out.len HFL.out
              obtain ⟨A2, c2, hv, hnc, _⟩ := HR.out.slice i
              have hfn : (fc i).length = n := by rw [hfl i, HNn.out]
              rw [show (({ cut s keep with f := fc } : S).f i).length = n from hfn] at hv hnc
              obtain ⟨_, hb1, hb2, _, _⟩ := HR.out.core.cc
              have hcb := HR.out.core.cb hi
              rw [hv] at hcb
              have hgl := HR.out.core.blk.lt
              by_cases hkn : k < n
              · by_cases h0a : 0 ≤ a
                · by_cases h8a : a < 8
                  · obtain ⟨hfc, hFe⟩ := HBI.out.hit hkn h0a h8a
                    obtain ⟨q, rfl⟩ := Int.eq_ofNat_of_zero_le h0a
                    have hq8 : q < 8 := by omega
                    obtain ⟨x, hx⟩ : ∃ x, (fc i)[k]? = some x := ⟨_, List.getElem?_eq_getElem (by rw [hfn]; exact hkn)⟩
                    obtain ⟨gr, c3, hv3⟩ := RowV.full (HR.out.rows i) (fun e => by have : (bs (fc i)).length = 0 := by rw [show bs (fc i) = [] from e]; rfl
                                                                                   rw [bs_length] at this; omega)
                    rw [hv] at hv3
                    injection hv3 with hA2 hn3 hc3
                    subst hA2 hc3
                    have hrow := HR.out.rows i
                    rw [hv] at hrow
                    obtain ⟨hcx, hfx⟩ := RowV.cellAt (p := k) (u := .int .u8 (x.toNat : Int)) hrow (by simp [bs, hx]; rfl)
                    have hgr := cell_lt' hcx
                    have hset := (HR.out.new (Chg.refl _ wr).drew).setByte hv (p := k) (l := turn (fc i) k q) (y := x ^^^ UInt8.ofNat (2 ^ (7 - q))) (by rw [show (({ cut s keep with f := fc } : S).f i).length = n from hfn]; exact hkn) (turn_set hx)
                    have HST := Lib.hid hset
                    have hk1 : (0 : Int) ≤ (k : Int) := by omega
                    have hk2 : (k : Int) < ((n : Nat) : Int) := by omega
                    have hw7 : IntKind.i64.wrap (7 - (q : Int)) = ((7 - q : Nat) : Int) := by rw [IntWalk.i64_in _ (by omega)]; omega
                    have hw8 : IntKind.u64.wrap ((7 - q : Nat) : Int) = ((7 - q : Nat) : Int) := by rw [IntKind.wrap_u64]; omega
                    have hne := HR.out.core.row_ne (HR.out.rows i) (k := gr) (by rw [hv]; rfl)
                    have HNE := Lib.hid hne
                    have HFE := Lib.hid (And.intro hfc hFe)
                    have HXX := Lib.hid hx
                    have HVV := Lib.hid hv
                    clear hx hv hrow hn3 hset hfc hFe hfl hnc hne
                    go_wp2_with fail
                    refine wp_region_held_drew (S := fun w' => w'.cell? ⟨g, 1, none⟩ = some (.slice (some ⟨b, 0, none⟩) 64 64) ∧ w'.cell? ⟨b, i, none⟩ = some (.slice (some ⟨gr, 0, none⟩) n c2)) (by kernel_rfl) (⟨hb1, hcb⟩) (fun hHeld => ?_)
                    refine heldW (i := 0) (v := ?cv0) rfl (by kernel_rfl) (by kernel_rfl) (by kernel_rfl) (fun _ _ _ h => h) (by rfl) ?chy0 hHeld ?crest0
                    case chy0 => (intro w hSw; (try dsimp only at hSw); go_simp; try with_reducible rfl)
                    simp only [Act.put, List.setIfInBounds_toArray, List.set_cons_zero, List.set_cons_succ]
                    refine heldW (i := 1) (v := ?cv1) rfl (by kernel_rfl) (by kernel_rfl) (by kernel_rfl) (fun _ _ _ h => h) (by rfl) ?chy1 hHeld ?crest1
                    case chy1 => (intro w hSw; (try dsimp only at hSw); go_simp; try with_reducible rfl)
                    simp only [Act.put, List.setIfInBounds_toArray, List.set_cons_zero, List.set_cons_succ]
                    refine heldW (i := 2) (v := ?cv2) rfl (by kernel_rfl) (by kernel_rfl) (by kernel_rfl) (fun _ _ _ h => h) (by rfl) ?chy2 hHeld ?crest2
                    case chy2 => (intro w hSw; (try dsimp only at hSw); go_simp; try with_reducible rfl)
                    simp only [Act.put, List.setIfInBounds_toArray, List.set_cons_zero, List.set_cons_succ]
                    refine heldW (i := 3) (v := ?cv3) rfl (by kernel_rfl) (by kernel_rfl) (by kernel_rfl) (fun _ _ _ h => h) (by rfl) ?chy3 hHeld ?crest3
                    case chy3 => (intro w hSw; (try dsimp only at hSw); go_simp; try with_reducible rfl)
                    simp only [Act.put, List.setIfInBounds_toArray, List.set_cons_zero, List.set_cons_succ]
                    refine heldW (i := 4) (v := ?cv4) rfl (by kernel_rfl) (by kernel_rfl) (by kernel_rfl) (fun _ _ _ h => h) (by rfl) ?chy4 hHeld ?crest4
                    case chy4 => (intro w hSw; (try dsimp only at hSw); go_simp; try with_reducible rfl)
                    simp only [Act.put, List.setIfInBounds_toArray, List.set_cons_zero, List.set_cons_succ]
                    refine heldW (i := 5) (v := ?cv5) rfl (by kernel_rfl) (by kernel_rfl) (by kernel_rfl) (fun _ _ _ h => h) (by rfl) ?chy5 hHeld ?crest5
                    case chy5 => (intro w hSw; (try dsimp only at hSw); go_simp; try with_reducible rfl)
                    simp only [Act.put, List.setIfInBounds_toArray, List.set_cons_zero, List.set_cons_succ]
                    refine heldW (i := 6) (v := ?cv6) rfl (by kernel_rfl) (by kernel_rfl) (by kernel_rfl) (fun _ _ _ h => h) (by rfl) ?chy6 hHeld ?crest6
                    case chy6 => (intro w hSw; (try dsimp only at hSw); go_simp; try with_reducible rfl)
                    simp only [Act.put, List.setIfInBounds_toArray, List.set_cons_zero, List.set_cons_succ]
                    refine heldW (i := 7) (v := ?cv7) rfl (by kernel_rfl) (by kernel_rfl) (by kernel_rfl) (fun _ _ _ h => h) (by rfl) ?chy7 hHeld ?crest7
                    case chy7 => (intro w hSw; (try dsimp only at hSw); go_simp; try with_reducible rfl)
                    simp only [Act.put, List.setIfInBounds_toArray, List.set_cons_zero, List.set_cons_succ]
                    refine heldW (i := 8) (v := ?cv8) rfl (by kernel_rfl) (by kernel_rfl) (by kernel_rfl) (fun _ _ _ h => h) (by rfl) ?chy8 hHeld ?crest8
                    case chy8 => (intro w hSw; (try dsimp only at hSw); go_simp; try with_reducible rfl)
                    simp only [Act.put, List.setIfInBounds_toArray, List.set_cons_zero, List.set_cons_succ]
                    refine heldW (i := 9) (v := ?cv9) rfl (by kernel_rfl) (by kernel_rfl) (by kernel_rfl) (fun _ _ _ h => h) (by rfl) ?chy9 hHeld ?crest9
                    case chy9 => (intro w hSw; (try dsimp only at hSw); go_simp; try with_reducible rfl)
                    simp only [Act.put, List.setIfInBounds_toArray, List.set_cons_zero, List.set_cons_succ]
                    refine heldW (i := 10) (v := ?cv10) rfl (by kernel_rfl) (by kernel_rfl) (by kernel_rfl) (fun _ _ _ h => h) (by rfl) ?chy10 hHeld ?crest10
                    case chy10 => (intro w hSw; (try dsimp only at hSw); go_simp; try with_reducible rfl)
                    simp only [Act.put, List.setIfInBounds_toArray, List.set_cons_zero, List.set_cons_succ]
                    refine heldW (i := 11) (v := ?cv11) rfl (by kernel_rfl) (by kernel_rfl) (by kernel_rfl) (fun _ _ _ h => h) (by rfl) ?chy11 hHeld ?crest11
                    case chy11 => (intro w hSw; (try dsimp only at hSw); go_simp; try with_reducible rfl)
                    simp only [Act.put, List.setIfInBounds_toArray, List.set_cons_zero, List.set_cons_succ]
                    refine heldW (i := 12) (v := ?cv12) rfl (by kernel_rfl) (by kernel_rfl) (by kernel_rfl) (fun _ _ _ h => h) (by rfl) ?chy12 hHeld ?crest12
                    case chy12 => (intro w hSw; (try dsimp only at hSw); go_simp; try with_reducible rfl)
                    simp only [Act.put, List.setIfInBounds_toArray, List.set_cons_zero, List.set_cons_succ]
                    refine heldW (i := 13) (v := ?cv13) rfl (by kernel_rfl) (by kernel_rfl) (by kernel_rfl) (fun _ _ _ h => h) (by rfl) ?chy13 hHeld ?crest13
                    case chy13 => (intro w hSw; (try dsimp only at hSw); go_simp; try with_reducible rfl)
                    simp only [Act.put, List.setIfInBounds_toArray, List.set_cons_zero, List.set_cons_succ]
                    refine heldW (i := 14) (v := ?cv14) rfl (by kernel_rfl) (by kernel_rfl) (by kernel_rfl) (fun _ _ _ h => h) (by rfl) ?chy14 hHeld ?crest14
                    case chy14 => (intro w hSw; (try dsimp only at hSw); go_simp; try with_reducible rfl)
                    simp only [Act.put, List.setIfInBounds_toArray, List.set_cons_zero, List.set_cons_succ]
                    refine heldW (i := 15) (v := ?cv15) rfl (by kernel_rfl) (by kernel_rfl) (by kernel_rfl) (fun _ _ _ h => h) (by rfl) ?chy15 hHeld ?crest15
                    case chy15 => (intro w hSw; (try dsimp only at hSw); go_simp; try with_reducible rfl)
                    simp only [Act.put, List.setIfInBounds_toArray, List.set_cons_zero, List.set_cons_succ]
                    refine heldW (i := 16) (v := ?cv16) rfl (by kernel_rfl) (by kernel_rfl) (by kernel_rfl) (fun _ _ _ h => h) (by rfl) ?chy16 hHeld ?crest16
                    case chy16 => (intro w hSw; (try dsimp only at hSw); go_simp; try with_reducible rfl)
                    simp only [Act.put, List.setIfInBounds_toArray, List.set_cons_zero, List.set_cons_succ]
                    refine heldW (i := 18) (v := ?cv18) rfl (by kernel_rfl) (by kernel_rfl) (by kernel_rfl) (fun _ _ _ h => h) (by rfl) ?chy18 hHeld ?crest18
                    case chy18 => (intro w hSw; (try dsimp only at hSw); go_simp; try with_reducible rfl)
                    simp only [Act.put, List.setIfInBounds_toArray, List.set_cons_zero, List.set_cons_succ]
                    refine heldW (i := 19) (v := ?cv19) rfl (by kernel_rfl) (by kernel_rfl) (by kernel_rfl) (fun _ _ _ h => h) (by rfl) ?chy19 hHeld ?crest19
                    case chy19 => (intro w hSw; (try dsimp only at hSw); go_simp; try with_reducible rfl)
                    simp only [Act.put, List.setIfInBounds_toArray, List.set_cons_zero, List.set_cons_succ]
                    refine heldW (i := 20) (v := ?cv20) rfl (by kernel_rfl) (by kernel_rfl) (by kernel_rfl) (fun _ _ _ h => h) (by rfl) ?chy20 hHeld ?crest20
                    case chy20 => (intro w hSw; (try dsimp only at hSw); go_simp; try with_reducible rfl)
                    simp only [Act.put, List.setIfInBounds_toArray, List.set_cons_zero, List.set_cons_succ]
                    refine heldW (i := 21) (v := ?cv21) rfl (by kernel_rfl) (by kernel_rfl) (by kernel_rfl) (fun _ _ _ h => h) (by rfl) ?chy21 hHeld ?crest21
                    case chy21 => (intro w hSw; (try dsimp only at hSw); go_simp; try with_reducible rfl)
                    simp only [Act.put, List.setIfInBounds_toArray, List.set_cons_zero, List.set_cons_succ]
                    refine heldC (i := 17) rfl (by kernel_rfl) (by rfl) (fun K hK => ?_)
                    go_simp
                    refine hK.out _ _ (hHeld) (fun hHeld2 => ?_)
                    clear hK K hHeld
                    have hHeld := hHeld2
                    clear hHeld2
                    (try simp only [Act.put, List.setIfInBounds_toArray, List.set_cons_zero, List.set_cons_succ])
                    refine heldW (i := 22) (v := ?cv22) rfl (by kernel_rfl) (by kernel_rfl) (by kernel_rfl) (fun _ _ _ h => h) (by rfl) ?chy22 hHeld ?crest22
                    case chy22 => (intro w hSw; (try dsimp only at hSw); go_simp; try with_reducible rfl)
                    simp only [Act.put, List.setIfInBounds_toArray, List.set_cons_zero, List.set_cons_succ]
                    refine heldW (i := 23) (v := ?cv23) rfl (by kernel_rfl) (by kernel_rfl) (by kernel_rfl) (fun _ _ _ h => h) (by rfl) ?chy23 hHeld ?crest23
                    case chy23 => (intro w hSw; (try dsimp only at hSw); go_simp; try with_reducible rfl)
                    simp only [Act.put, List.setIfInBounds_toArray, List.set_cons_zero, List.set_cons_succ]
                    refine wpAnyH_ready (rs := [24]) (by kernel_rfl) (by simp) (AllReadyH.cons rfl (fun K hK => ?_) AllReadyH.nil)
                    go_simp
                    refine hK.out _ _ (⟨((Chg.refl (fun k => k = gr) _).setCell (p := ⟨gr, k, none⟩) (fun _ => rfl) _).cell hb1 (fun e => HNE.out.1 e.symm), ((Chg.refl (fun k => k = gr) _).setCell (p := ⟨gr, k, none⟩) (fun _ => rfl) _).cell hcb (fun e => HNE.out.2.1 e.symm)⟩) (fun hHeld2 => ?_)
                    clear hK K hHeld
                    have hHeld := hHeld2
                    clear hHeld2
                    (try simp only [Act.put, List.setIfInBounds_toArray, List.set_cons_zero, List.set_cons_succ])
                    refine wpAnyH_done (by kernel_rfl) ?_ _
                    go_wp2_with fail
                    go_roundw
                    case rel =>
                      have hv2 : Value.int .u8 (bits .xor .u8 (x.toNat : Int) ((2 : Int) ^ (7 - q) % 256)) = By (x ^^^ UInt8.ofNat (2 ^ (7 - q))) := congrArg (Value.int .u8) (turn_bits3 x hq8)
                      have hF2 : F = upd fc i (turn (fc i) k q) := by rw [HFE.out.2, HFE.out.1]; rfl
                      refine ⟨k + 1, (q : Int) - 8, F, by omega, by go_num, by go_num, Lib.hid (.inl ⟨by omega, rfl⟩), by omega, by omega, Lib.hid ?_, Lib.hid ?_⟩
                      · rw [hv2, hF2]
                        exact HST.out.1
                      · rw [hv2]
                        exact HD5.out.trans ((DidR.of_new (Chg.refl _ wr).drew).trans HST.out.2)
                    case measure => simp [intOf]; omega
                  · have HB2 := Lib.hid (HBI.out.past hkn (.inr (by omega)))
                    clear hv hfl hnc
                    go_wp2
                    go_roundw
                    case rel => exact ⟨k + 1, a - 8, fc, by omega, by go_num, by go_num, HB2, by omega, by omega, HR, HD5⟩
                    case measure => simp [intOf]; omega
                · have HB2 := Lib.hid (HBI.out.past hkn (.inl (by omega)))
                  clear hv hfl hnc
                  go_wp2
                  go_roundw
                  case rel => exact ⟨k + 1, a - 8, fc, by omega, by go_num, by go_num, HB2, by omega, by omega, HR, HD5⟩
                  case measure => simp [intOf]; omega
              · obtain rfl : k = n := by omega
                have HB2 := Lib.hid (HBI.out.leave)
                rw [← HRR.out] at HB2
                clear hv hfl hnc
                go_wp2
                go_roundw
                case rel => exact ⟨j5 + 1, a, fc, by omega, by go_num, rfl, HB2, by omega, by omega, HR, HD5⟩
                case measure => simp [intOf]; omega
          · have hdl : (files s).drop j5 = [] := List.drop_eq_nil_of_le (by rw [HFN.out]; omega)
            have hfF : fc = F := by have h1 := HBA.out; rw [hdl] at h1; exact h1.done
            obtain ⟨T, hT⟩ : ∃ T, turned s keep flip = T := ⟨_, rfl⟩
            have hTe : ({ cut s keep with f := fc } : S) = T := by
              rw [hfF, ← HF.out, ← hT]
              unfold turned
              split <;> rfl
            rw [hTe] at HR
            have HT := Lib.hid hT
            clear hdl hfF hT hTe HBA hal hau
            go_wp2_with fail
            go_loopw [16] (fun v wr3 => ∃ k : Nat, k ≤ 64 ∧ v = .int .i64 (k : Int) ∧ RI wr3 g b f V' (syncN T k) ∧ DidR w2 wr3 g b f V V') (fun v _ => 64 - (intOf v).toNat)
            case atStart => exact ⟨0, Nat.zero_le _, rfl, by rw [syncN_zero]; exact HR.out, HD5.out⟩
            case round =>
              clear HD5
              obtain ⟨k, hk, rfl, hri, hdid⟩ := hrel
              by_cases hlt : k < 64
              · obtain ⟨A, c, hv, _⟩ := hri.slice k
                obtain ⟨n, hn⟩ : ∃ n, ((syncN T k).f k).length = n := ⟨_, rfl⟩
                rw [hn] at hv
                have hcb := hri.core.cb hlt
                rw [hv] at hcb
                have hcf := hri.core.cf hlt
                have hff := hri.core.rf.frozen k
                obtain ⟨_, hd1, hd2, _, _⟩ := hri.core.cc
                have hgl1 := hri.core.blk.lt
                obtain ⟨hx1, hx2⟩ := hri.setFirm hlt (d := n) (by omega)
                have hsn : { syncN T k with firm := upd (syncN T k).firm k n } = syncN T (k + 1) := by rw [syncN_succ, ← hn]; rfl
                rw [hsn] at hx1
                have HV := Lib.hid hv
                have HX7 := Lib.hid (And.intro hx1 (hdid.trans hx2))
                have hi1 : (0 : Int) ≤ (k : Int) := by omega
                have hi2 : (k : Int) < 64 := by omega
                have hi3 : (k : Int) < ((64 : Nat) : Int) := by omega
                clear hri hdid hv hn hx1 hx2 hsn
                go_wp2_with fail
                go_region_held3 (fun w1 => w1.cell? ⟨g, 1, none⟩ = some (.slice (some ⟨b, 0, none⟩) 64 64) ∧ w1.cell? ⟨g, 2, none⟩ = some (.slice (some ⟨f, 0, none⟩) 64 64) ∧ w1.cell? ⟨b, k, none⟩ = some (.slice A n c)) (first | exact ⟨hd1, hd2, hcb⟩ | exact ⟨HX7.out.1.core.cc.2.1, HX7.out.1.core.cc.2.2.1, by have := HX7.out.1.core.cb hlt; rw [HV.out] at this; exact this⟩) (fail)
                go_wp2
                go_roundw
                case rel => exact ⟨k + 1, by omega, by go_num, HX7.out.1.new (Chg.refl _ _).drew, HX7.out.2.trans (DidR.of_new (Chg.refl _ _).drew)⟩
                case measure => simp [intOf]; omega
              · obtain rfl : k = 64 := by omega
                have hwT : WF T := HT.out ▸ HH.out.wf.turned keep flip
                rw [syncN_all hwT] at hri
                have hb3 := hri.core.blk.cell 3 (u := .bool T.off) rfl
                have hb4 := hri.core.blk.cell 4 (u := .int .i64 T.plan) rfl
                have hf3 := hri.core.blk.frozen 3
                have hf4 := hri.core.blk.frozen 4
                have HX6 := Lib.hid hri
                have HC6 := Lib.hid hdid
                rename_i wz _
                clear hri hdid
                go_wp2
                go_end0
                have hbk := (HX6.out.core.blk.set_ 3 (.bool false)).set_ 4 (.int .i64 (-1))
                have hcr : crash s keep flip = { firmAll T with off := false, plan := -1 } := by unfold crash; rw [HT.out]
                rw [hcr]
                have hfin := HX6.out.cells (s' := { firmAll T with off := false, plan := -1 }) ⟨rfl, rfl⟩ (by simpa [mCells, firmAll] using hbk) (((Chg.refl (fun k => k = g) _).setCell (p := ⟨g, 3, none⟩) (fun _ => rfl) _).setCell (p := ⟨g, 4, none⟩) (fun _ => rfl) _) ⟨HX6.out.wf.firm, ⟨by simp, by simp⟩, HX6.out.wf.room, HX6.out.wf.used, HX6.out.wf.far⟩
                exact ⟨rfl, V', hfin.1, (DidR.of_new H2.out.2).trans (HC6.out.trans hfin.2)⟩
end Go.Proofs.Ytffehmfjcglalaa
