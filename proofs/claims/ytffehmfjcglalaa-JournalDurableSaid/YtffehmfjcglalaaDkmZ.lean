/- What DiskArguments, DiskHash ask of the plain disk; New with a bad room; a byte slice cut. -/
import Derived.Test.YtffehmfjcglalaaDkLivesZ
set_option linter.unusedSimpArgs false
set_option linter.unusedVariables false
namespace Go.Dk
theorem pstep_idle {s : S} (h : s.plan = -1) : pstep s = (s, false) := if_pos (by omega)
theorem new_append {room i : Nat} {l : List UInt8} (hi : i < 64) (hl : l.length ≤ room) : append (new room) (i : Int) l = (put (new room) i l 0, 0) := by
  unfold append
  rw [if_neg (by omega), if_neg (by simp [new]), if_neg (by rw [used_new]; show ¬ room < 0 + l.length; omega)]
  have h : put (new room) (i : Int).toNat ((new room).f (i : Int).toNat ++ l) ((new room).firm (i : Int).toNat) = put (new room) i l 0 := by simp [new]
  rw [h, pstep_idle (by simp [put, new])]
  simp
theorem new_full {room i : Nat} {l : List UInt8} (hi : i < 64) (hl : room < l.length) : append (new room) (i : Int) l = (new room, 23) := by
  unfold append
  rw [if_neg (by omega), if_neg (by simp [new]), if_pos (by rw [used_new]; show room < 0 + l.length; omega)]
theorem new_read {room i : Nat} (hi : i < 64) : read (new room) (i : Int) = ([], 0) := by
  unfold read
  rw [if_neg (by omega), if_neg (by simp [new])]
  simp [new]
theorem put_read {s : S} {i d : Nat} {l : List UInt8} (hi : i < 64) (ho : s.off = false) : read (put s i l d) (i : Int) = (l, 0) := by
  unfold read
  rw [if_neg (by omega), if_neg (by simp [put, ho])]
  simp [put, upd_same]
theorem put_used0 {room i : Nat} {l : List UInt8} {d : Nat} (hi : i < 64) : used (put (new room) i l d) = l.length := by
  have := put_used (s := new room) hi l d
  rw [used_new] at this
  simp [new] at this ⊢
  omega
theorem put_trunc {room i k : Nat} {l : List UInt8} (hi : i < 64) (hk : k ≤ l.length) : truncate (put (new room) i l 0) (i : Int) (k : Int) = (put (put (new room) i l 0) i (l.take k) 0, 0) := by
  unfold truncate
  have hp : pstep (put (new room) i l 0) = (put (new room) i l 0, false) := pstep_idle (by simp [put, new])
  rw [hp, if_neg (by simp [put, upd_same]; omega), if_neg (by simp [put, new]), if_neg (by simp)]
  simp [put, upd_same]
theorem put_trunc_bad {room i : Nat} {size : Int} {l : List UInt8} (h : size < 0 ∨ (l.length : Int) < size) : truncate (put (new room) i l 0) (i : Int) size = (put (new room) i l 0, 1) := by
  unfold truncate
  rw [if_pos (by simp [put, upd_same]; omega)]
end Go.Dk
namespace Go.Proofs.Ytffehmfjcglalaa
set_option linter.unusedVariables false
open Go.RowKit Go.Mem Go.Dk Go.Col

set_option maxHeartbeats 1000000 in
set_option maxRecDepth 100000 in
theorem dNewBad_any (room : Int) (hr : room < 0 ∨ 16777216 < room) (w : World) :
    Calls Try.prog 30 #[.int .i64 room] w fun e w' => e = .returned (.tuple #[.pointer none, .int .i64 1]) ∧ w = w' := by
  by_cases h : room < 0
  · clear hr
    go_enter Try.func30, Try.ntmps30
    go_wp2
    go_ret2
    exact ⟨rfl, rfl⟩
  · have h2 : 16777216 < room := by omega
    clear hr
    go_enter Try.func30, Try.ntmps30
    go_wp2
    go_ret2
    exact ⟨rfl, rfl⟩
section
variable {w : World} {c : Colr} {v : Value} {l : List UInt8}
theorem k_dnewbad {room : Int} (hr : room < 0 ∨ 16777216 < room) : CV Try.prog 30 #[.int .i64 room] w c (TyC.eq (.tuple #[.pointer none, .int .i64 1])) := by
  refine CV.of_newc (R := fun u _ => u = .tuple #[.pointer none, .int .i64 1]) ((dNewBad_any room hr w).mono ?_) (fun u w' _ h => h)
  rintro e w' ⟨rfl, rfl⟩
  exact ⟨_, rfl, rfl, Chg.refl _ _⟩
theorem byC_take {A : Option Addr} {n cp k : Nat} (h : (byC l).sat (.slice A n cp) w c) (hk : k ≤ l.length) : (byC (l.take k)).sat (.slice A k cp) w c := by
  obtain ⟨A', cp', hv, h2, hcp, h3⟩ := h
  injection hv with hA hn hc
  subst hA hn hc
  have hl : (l.take k).length = k := by rw [List.length_take]; omega
  have h4 := h2.take (k := k) hk
  rw [bs_take] at h4
  exact ⟨A, cp, by rw [hl], by rw [hl]; exact h4, by omega, h3⟩
theorem few_cast {k : Nat} {o : List UInt8} {f : Nat} {vs : Array Value} (e : l.take k = o) (h : CV Try.prog f vs w c (byC (l.take k))) : CV Try.prog f vs w c (byC o) := e ▸ h
end
section
variable {P : Program} {l : List Oper} {dt : List (List Nat)} {Q : Exit → Act → World → Prop} {n : Nat} {a : Act} {m : Nat → Option Value} {D CB : List Nat} {Fs : List RF} {V : Nat → TyC} {w0 : World} {c0 : Colr} {i : Nat}
/-- b[:k] of plain bytes. -/
theorem sSlP (d : Nat) {o : Oper} {t e : TypeId} {z : Value} {bytes : Nat} {x0 y0 : List UInt8} {k : Nat} (r0 r1 : XA n l dt m D i) (hE_ : Elem P t e z bytes) (hz : ∀ {b : BB} {f : FF} {w : World} {c : Colr} {v : Value}, Kx dt w0 c0 CB Fs i b f w c → r0.r.T V w c v → (byC x0).sat (r0.r.W v) w c) (hz2 : ∀ {b : BB} {f : FF} {w : World} {c : Colr} {v : Value}, Kx dt w0 c0 CB Fs i b f w c → r1.r.T V w c v → r1.r.W v = .int .i64 (k : Int)) (hk : k ≤ x0.length) (hy : x0.take k = y0) (hi : nthL l i = some o := by rfl) (hop : o.op = .slice t r0.r.opd none (some r1.r.opd) none := by rfl) (hd : o.dst = some d := by rfl) (hA : Fs.filter (aff [] i (some d)) = [] := by rfl) (hV : V d = byC y0 := by rfl) (hg : Gd l n dt V i o.guard := by first | exact trivial | exact ⟨rfl, _, ⟨rfl, rfl⟩, rfl⟩) : OpStep P l dt Q n a m D CB Fs V w0 c0 i := by
  intro b f w c x o' hJ hout hF hE ho K
  obtain rfl : o = o' := Option.some.inj (hi.symm.trans ho)
  obtain ⟨v0, ev0, sv0⟩ := r0.ev hJ hout hF hE K
  obtain ⟨v1, ev1, sv1⟩ := r1.ev hJ hout hF hE K
  have h1 := hz K sv0
  have h2 := ev1.trans (hz2 K sv1)
  obtain ⟨A, cp, hv, hrd, hcp, hc⟩ := id h1
  have hkc : k ≤ cp := Nat.le_trans hk hcp
  have hrun := run_upto (P := P) hE_ .i64 A x0.length cp k k rfl hkc w
  subst hy
  exact .pure (v := .slice A k cp) d (hg.wanted hJ hF hE K) hd (by rw [hA]; trivial) hJ.gi (by simp [execOp, hop, ev0.trans hv, h2, Instr.sliceAt, run_underlying hE_.1, hrun, Result.andThen]) (by rw [hV]; rw [hv] at h1; exact byC_take h1 hk)
end
end Go.Proofs.Ytffehmfjcglalaa
