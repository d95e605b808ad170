/- Ints; the reference's disk with its blocks named: a file read directly. -/
import Derived.Test.YtdflpcbkkpgnlaaB0
import Derived.Test.YtdflpcbkkpgnlaaRdqZ
namespace Go.Proofs.Ytdflpcbkkpgnlaa
set_option linter.unusedVariables false
open Go.RowKit Go.Mem Go.Dk Go.Col

section
variable {P : Program} {l : List Oper} {dt : List (List Nat)} {Q : Exit → Act → World → Prop} {n : Nat} {a : Act} {m : Nat → Option Value} {D CB : List Nat} {Fs : List RF} {V : Nat → TyC} {w0 : World} {c0 : Colr} {i : Nat}
/-- A pointer that is not nil. -/
theorem sNil (d : Nat) {o : Oper} {ad : Addr} (r0 : XA n l dt m D i) (hz : ∀ {w : World} {c : Colr} {v : Value}, r0.r.T V w c v → r0.r.W v = .pointer (some ad) := by exact fun h => h) (hV : V d = TyC.eq (.pointer (some ad)) := by rfl) (hi : nthL l i = some o := by rfl) (hop : o.op = .nilCheck r0.r.opd := by rfl) (hd : o.dst = some d := by rfl) (hA : Fs.filter (aff [] i (some d)) = [] := by rfl) (hg : Gd l n dt V i o.guard := by first | exact trivial | exact ⟨rfl, _, ⟨rfl, rfl⟩, rfl⟩) : OpStep P l dt Q n a m D CB Fs V w0 c0 i := by
  intro b f w c x o' hJ hout hF hE ho K
  obtain rfl : o = o' := Option.some.inj (hi.symm.trans ho)
  obtain ⟨v0, ev0, sv0⟩ := r0.ev hJ hout hF hE K
  have e := ev0.trans (hz sv0)
  exact .pure d (hg.wanted hJ hF hE K) hd (by rw [hA]; trivial) hJ.gi (show (execOp x.eval o).run P w = .ok (.value (.pointer (some ad))) w from by simp [execOp, hop, e]) (by rw [hV]; rfl)
end
theorem flatBs : Flat Try.prog 27 := ⟨_, Try.underlying27, rfl⟩
/-- Bytes that read. -/
def Rb (v : Value) (w : World) (l : List UInt8) : Prop := ∃ A cp, v = .slice A l.length cp ∧ Rd w A l.length (bs l) ∧ ∀ k, blk A = some k → k < w.heap.size
section
variable {w : World} {c : Colr} {v u : Value} {l l' : List UInt8}
theorem byC_rb (h : (byC l).sat v w c) : Rb v w l := by
  obtain ⟨A, cp, rfl, h2, _, h3⟩ := h
  refine ⟨A, cp, rfl, h2, fun k hk => ?_⟩
  cases A with
  | none => cases hk
  | some ad =>
    have : ad.block = k := by simpa [blk] using hk
    subst this
    exact (h3 ad rfl).1
theorem k_sameR (h : Rb v w l) (h' : Rb u w l') (hl : l.length ≤ 1000000000) (e : l = l') : CV Try.prog 17 #[v, u] w c (TyC.eq (.bool true)) := by
  subst e
  obtain ⟨A, cp, rfl, h2, _⟩ := h
  obtain ⟨B, cq, rfl, h4, _⟩ := h'
  refine CV.of_newc (R := fun u _ => u = .bool true) ((sameBytes_any A B l.length l.length cp cq l l w h2 h4 (by omega) (by omega)).mono ?_) (fun u w' _ h => h)
  rintro e w' ⟨rfl, h6⟩
  exact ⟨_, rfl, by simp, h6⟩
end
section
variable {P : Program} {l : List Oper} {dt : List (List Nat)} {Q : Exit → Act → World → Prop} {n : Nat} {a : Act} {m : Nat → Option Value} {D CB : List Nat} {Fs : List RF} {V : Nat → TyC} {w0 : World} {c0 : Colr} {i : Nat}
/-- A conversion of a known value. -/
theorem sCvk (d : Nat) {o : Oper} {src dst : TypeId} {z u : Value} (r0 : XA n l dt m D i) (hz : ∀ {w : World} {c : Colr} {v : Value}, r0.r.T V w c v → r0.r.W v = z) (L : ∀ {w : World}, (convert src dst z).run P w = .ok u w) (hi : nthL l i = some o := by rfl) (hop : o.op = .convert src dst r0.r.opd := by rfl) (hd : o.dst = some d := by rfl) (hA : Fs.filter (aff [] i (some d)) = [] := by rfl) (hV : V d = TyC.eq u := by rfl) (hg : Gd l n dt V i o.guard := by first | exact trivial | exact ⟨rfl, _, ⟨rfl, rfl⟩, rfl⟩) : OpStep P l dt Q n a m D CB Fs V w0 c0 i := by
  intro b f w c x o' hJ hout hF hE ho K
  obtain rfl : o = o' := Option.some.inj (hi.symm.trans ho)
  obtain ⟨v0, ev0, sv0⟩ := r0.ev hJ hout hF hE K
  exact .pure (v := u) d (hg.wanted hJ hF hE K) hd (by rw [hA]; trivial) hJ.gi (by simp [execOp, hop, ev0.trans (hz sv0), L, Result.andThen]) (by rw [hV]; rfl)
end
theorem is_take (l : List Int) (k : Nat) : (is l).take k = is (l.take k) := by unfold is; rw [List.map_take]
set_option maxHeartbeats 400000 in
theorem ints_any (A : Option Addr) (n c : Nat) (most : Nat) (l : List Int) (w : World) (hr : Rd w A n (is l)) (hnc : n ≤ c) (hc : c ≤ 9223372036854775807) (hm : most ≤ 1000000) :
    Calls Try.prog 30 #[.slice A n c, .int .i64 most] w fun e w' => ∃ A' c', e = .returned (.slice A' (l.take most).length c') ∧
      w'.ownsRow w.heap.size 3 1 (.slice A' (l.take most).length c') (l.take most).length (is (l.take most)) ∧ New w w' := by
  have hl : l.length = n := by simpa using hr.len
  have HL := Lib.hid hl
  by_cases h : n ≤ most
  · have hr' := hr
    have HE : Hid (l.take most = l ∧ (l.take most).length = n) := ⟨List.take_of_length_le (by omega), by simp; omega⟩
    have hmn := fun ts t W => run_min2 (P := Try.prog) (n : Int) (most : Int) (n : Int) (by omega) ts t W
    clear hl
    go_enter Try.func30, Try.ntmps30
    go_wp2_with (at_builtin; (refine wpList_app elemInts rfl _ _ rfl rfl (World.ownsRow_nil w w.heap.size _ _) rfl hr' (is_one _) (by simp only [maxLen]; omega) (by omega) (Nat.le_refl _) ?_); intro A' c' w1 hown hg hat)
    go_ret
    rw [HE.out.2, HE.out.1]
    refine ⟨A', c', ?_, ?_, (Chg.refl _ w).grown hg (fun k hk => by simp [blk] at hk)⟩
    · simp
    · simpa using hown
  · have hr' := hr.take (k := most) (by omega)
    rw [is_take] at hr'
    have HE : Hid ((l.take most).length = most) := by simp [Hid]; omega
    have hmn := fun ts t W => run_min2 (P := Try.prog) (n : Int) (most : Int) (most : Int) (by omega) ts t W
    clear hl
    go_enter Try.func30, Try.ntmps30
    go_wp2_with (at_builtin; refine wpList_app elemInts rfl _ _ rfl rfl (World.ownsRow_nil w w.heap.size _ _) rfl hr' (is_one _) (by simp only [maxLen]; omega) (by omega) (Nat.le_refl _) ?_; intro A' c' w1 hown hg hat)
    go_ret
    rw [HE.out]
    refine ⟨A', c', ?_, ?_, (Chg.refl _ w).grown hg (fun k hk => by simp [blk] at hk)⟩
    · simp
    · simpa using hown

/-- The reference's disk, its blocks named. -/
def mkX (n : Nat) (s : S) (g b f : Nat) (V : Nat → Value) : TyO := ⟨[n], fun v w c => v = .pointer (some ⟨g, 0, none⟩) ∧ RI w g b f V s ∧ ∀ k, ownR g b f V k → c k = n, fun {S v w c w' c'} ⟨h1, h2, h3⟩ gi e hn => by
  have hS : S.contains n = false := by simpa using hn
  exact ⟨h1, h2.chg e.chg (fun k hk ht => by rw [h3 k hk, hS] at ht; cases ht), fun k hk => (e.col k (h2.lt hk)).trans (h3 k hk)⟩⟩
section
variable {w : World} {c : Colr} {v u : Value} {n : Nat} {s : S} {g b f : Nat} {V : Nat → Value}
theorem fld_m1 (g : Nat) : (Instr.fieldAt 58 (.pointer (some ⟨g, 0, none⟩)) 1).run Try.prog w = .ok (.pointer (some ⟨g, 1, none⟩)) w := run_field (sz := 1) Try.underlying58 rfl rfl (by kernel_rfl) rfl
theorem run_cvt8 {P : Program} {src dst : TypeId} (hs : P.underlying src = some (.int .i64)) (hd : P.underlying dst = some (.int .u8)) (x : Int) : (convert src dst (.int .i64 x)).run P w = .ok (.int .u8 ((UInt8.ofNat (x % 256).toNat).toNat : Int)) w := by
  have h : IntKind.u8.wrap x = ((UInt8.ofNat (x % 256).toNat).toNat : Int) := by
    rw [UInt8.toNat_ofNat', IntKind.wrap_u8]
    omega
  have e : (convert src dst (.int .i64 x)).run P w = .ok (.int .u8 (IntKind.u8.wrap x)) w := by simp [convert, run_underlying hs, run_underlying hd, go_sem]
  rw [e, h]
theorem arm_none {s : S} (h : (arm s (-1)).off = false) : (arm s (-1)).plan < 0 ∧ (arm s (-1)).f = s.f := by
  unfold arm at h ⊢
  split at h
  · rename_i ho; rw [ho] at h; cases h
  · rename_i ho; rw [if_neg ho]; exact ⟨(show max (-1 : Int) (-1) < 0 from by decide), rfl⟩
theorem mk_open (h : (mkO n s).sat v w c) : ∃ g b f V, v = .pointer (some ⟨g, 0, none⟩) ∧ (mkX n s g b f V).sat (.pointer (some ⟨g, 0, none⟩)) w c := by
  obtain ⟨g, b, f, V, rfl, h1, h2⟩ := h
  exact ⟨g, b, f, V, rfl, rfl, h1, h2⟩
theorem mkX_slice (h : (mkX n s g b f V).sat v w c) (i : Nat) : ∃ A cp, V i = .slice A (s.f i).length cp := by
  obtain ⟨A, cp, h1, _⟩ := h.2.1.slice i
  exact ⟨A, cp, h1⟩
theorem flatR {t : TypeId} {P : Program} (hA : Flat P t) {ad : Addr} {u : Value} (hc : w.cell? ad = some u) : (loadVar t ad).run P w = .ok u w := by
  obtain ⟨d, hu, hd⟩ := hA
  cases d <;> simp_all [loadVar, isAgg, run_underlying hu]
theorem mkX_row (h : (mkX n s g b f V).sat v w c) : ∃ u, (loadVar 22 ⟨g, 1, none⟩).run Try.prog w = .ok u w ∧ (TyC.eq (.slice (some ⟨b, 0, none⟩) 64 64)).sat u w c :=
  ⟨_, flatR ⟨_, Try.underlying22, rfl⟩ h.2.1.core.cc.2.1, rfl⟩
theorem mkX_file {i : Nat} {x : Value} (h : (mkX n s g b f V).sat v w c) (hi : i < 64) (hV : V i = x) : ∃ u, (loadVar 27 ⟨b, i * 1, none⟩).run Try.prog w = .ok u w ∧ (TyC.eq x).sat u w c :=
  ⟨_, flatR flatBs (by rw [Nat.mul_one]; exact hV ▸ h.2.1.core.cb hi), rfl⟩
theorem mkX_rb {i : Nat} {x : Value} (h : (mkX n s g b f V).sat v w c) (hV : V i = x) : Rb x w (s.f i) := by
  obtain ⟨A, cp, h1, h2, h3⟩ := h.2.1.slice i
  rw [hV] at h1
  have hr := h.2.1.rows i
  rw [hV, h1] at hr
  rw [h1]
  exact ⟨A, cp, rfl, hr.rd, fun k hk => hr.lt hk⟩
theorem k_ints {k : Nat} {l : List Int} (h : (isP l).sat v w c) (hk : k ≤ 1000000) : CV Try.prog 30 #[v, .int .i64 (k : Int)] w c (isC (l.take k)) := by
  obtain ⟨A, cp, rfl, h2, h3, h4, h5⟩ := h
  refine CV.of_newc (R := fun u w' => ∃ A cp, u = .slice A (l.take k).length cp ∧ w'.ownsRow w.heap.size 3 1 (.slice A (l.take k).length cp) (l.take k).length (is (l.take k))) ((ints_any A l.length cp k l w h2 h3 h4 hk).mono ?_) ?_
  · rintro e w' ⟨A, cp, rfl, h5, h6⟩
    exact ⟨_, rfl, ⟨A, cp, rfl, h5⟩, h6⟩
  · rintro u w' hN ⟨A, cp, rfl, h5⟩
    refine ⟨A, cp, rfl, Rd.of_own h5, fun ad hA => ?_⟩
    subst hA
    have := own_blk_le h5 (k := ad.block) rfl
    exact ⟨this.2, by simp [ext0]; intro h; omega⟩
end
end Go.Proofs.Ytdflpcbkkpgnlaa
