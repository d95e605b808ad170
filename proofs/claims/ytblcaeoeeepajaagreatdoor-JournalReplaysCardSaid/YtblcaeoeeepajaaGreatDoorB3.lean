/- The parts PureDig4, WideI, PureDig5, WideJ, WideK, PureDig6, WideL, WideM, WideN, WideO, WideP, WideQ, PureText, TextA, TextB, MemIn, TextC, TextD, Pure, Wr, Nk, PureRead, Reader of the proof, in one text. -/
import Derived.IntWalk
import Derived.Deep.LoopGhost
import Derived.Lib.ItoaNum
import Derived.Deep.CutRange
import Derived.Deep.RegionHeld3
import Derived.Lib.Atoi
import Derived.RangeFuncNested
import Derived.RangeFuncBound
import Derived.RangeFuncCalls
import Derived.RangeFuncLeaves
import Derived.Shelf.Abstract
import Derived.Shelf.RegionOpen
import Derived.WalkKit
import Derived.OwnWalkIn
import Derived.TacticsInMore
import Derived.LoopNIn
import Derived.LoopIn
import Derived.Lib.ConvBytes
import Derived.PlainAid
import Derived.Test.YtblcaeoeeepajaaGreatDoorProg
import Derived.Test.YtblcaeoeeepajaaGreatDoorB2
set_option linter.unusedSimpArgs false
set_option linter.unusedVariables false

namespace Go.Dig
set_option linter.unusedVariables false

/-- The estimate is not too small: if it is above q it may be lowered. -/
theorem est_hi {N D U3 D2 P dgt q : Nat} (hN : N < (U3 + 1) * P) (hD : D2 * P ≤ D) (h : U3 < dgt * D2) (hq : q * D ≤ N) : q < dgt := by
  rcases Nat.lt_or_ge q dgt with h1 | h1
  · exact h1
  · exfalso
    have h2 : (U3 + 1) * P ≤ dgt * D2 * P := Nat.mul_le_mul_right _ h
    have h3 : dgt * D2 * P ≤ q * D := by
      rw [Nat.mul_assoc]
      exact Nat.mul_le_mul h1 hD
    omega
/-- At the end the estimate is at most one too great. -/
theorem est_lo {N D U3 D2 P B dgt q : Nat} (hN : U3 * P ≤ N) (hD : D < (D2 + 1) * P) (hD2 : B * P ≤ D) (hd : dgt < B) (h : dgt * D2 ≤ U3) (hq : N < (q + 1) * D) : dgt ≤ q + 1 := by
  rcases Nat.lt_or_ge (q + 1) dgt with h1 | h1
  · exfalso
    have hP : 0 < P := by
      rcases Nat.eq_zero_or_pos P with h0 | h0
      · rw [h0] at hD; omega
      · exact h0
    have h2 : dgt * D ≤ dgt * ((D2 + 1) * P) := Nat.mul_le_mul_left _ (Nat.le_of_lt hD)
    have h3 : dgt * ((D2 + 1) * P) = dgt * D2 * P + dgt * P := by rw [Nat.add_mul, Nat.mul_add, Nat.one_mul, Nat.mul_assoc]
    have h4 : dgt * D2 * P ≤ U3 * P := Nat.mul_le_mul_right _ h
    have h5 : dgt * P ≤ B * P := Nat.mul_le_mul_right _ (Nat.le_of_lt hd)
    have h6 : (q + 2) * D ≤ dgt * D := Nat.mul_le_mul_right _ h1
    have h7 : (q + 2) * D = (q + 1) * D + D := by rw [show q + 2 = q + 1 + 1 by omega, Nat.add_mul (q + 1) 1 D, Nat.one_mul]
    omega
  · exact h1
end Go.Dig

namespace Go.Dig
set_option linter.unusedVariables false
end Go.Dig
namespace Go.Proofs.YtblcaeoeeepajaaGreatDoor
set_option linter.unusedVariables false
open Go.RowKit Go.Mem Go.Dig Go.Pure

end Go.Proofs.YtblcaeoeeepajaaGreatDoor

namespace Go.Dig
set_option linter.unusedVariables false

/-- A list moved down by s bits (P = 2^s, P * Q = B). -/
def low (B P Q : Nat) : List Nat → List Nat
  | [] => []
  | d :: t => (d / P + dg t 0 * Q % B) :: low B P Q t
end Go.Dig

namespace Go.Dig
set_option linter.unusedVariables false
end Go.Dig
namespace Go.Proofs.YtblcaeoeeepajaaGreatDoor
set_option linter.unusedVariables false
open Go.RowKit Go.Mem Go.Dig Go.Pure
end Go.Proofs.YtblcaeoeeepajaaGreatDoor

namespace Go.Proofs.YtblcaeoeeepajaaGreatDoor
set_option linter.unusedVariables false
open Go.RowKit Go.Mem Go.Dig Go.Pure

end Go.Proofs.YtblcaeoeeepajaaGreatDoor

namespace Go.Dig
set_option linter.unusedVariables false

/-- The state of the long division behind the digits from k on. -/
structure KnI (B X D N n k : Nat) (L q : List Nat) : Prop where
  len : L.length = N
  digs : Digs B L
  qlen : q.length = N - n
  qdigs : Digs B q
  low : val B (L.drop k) < D
  eq : X = val B L + D * (B ^ k * val B (q.drop k))
theorem KnI.start {B X D N n : Nat} {L : List Nat} (hB : 1 ≤ B) (hl : L.length = N) (hd : Digs B L) (hX : val B L = X) (hlow : val B (L.drop (N - n)) < D) : KnI B X D N n (N - n) L (List.replicate (N - n) 0) := by
  refine ⟨hl, hd, by simp, Digs.zeros hB _, hlow, ?_⟩
  rw [List.drop_replicate, val_zeros, hX]
  omega
/-- The digits above the window are 0. -/
theorem KnI.up {B X D N n j : Nat} {L q : List Nat} (hB : 1 ≤ B) (h : KnI B X D N n (j + 1) L q) (hD : D ≤ B ^ n) {U : Nat} (hU : val B ((L.drop j).take (n + 1)) = U) : val B (L.drop j) = U ∧ U < B * D ∧ val B (L.drop (j + (n + 1))) = 0 := by
  have h1 := val_drop_dg B L j
  have h2 := dg_lt h.digs hB j
  have h3 := h.low
  have h4 : val B (L.drop j) < B * D := by
    have : B * (val B (L.drop (j + 1)) + 1) ≤ B * D := Nat.mul_le_mul_left _ h3
    rw [Nat.mul_add] at this
    omega
  have h5 : B * D ≤ B ^ (n + 1) := by
    rw [Nat.pow_succ, Nat.mul_comm]
    exact Nat.mul_le_mul_right _ hD
  have h6 : val B (L.drop j) = U + B ^ (n + 1) * val B (L.drop (j + (n + 1))) := by
    rcases Nat.lt_or_ge (L.drop j).length (n + 1) with hl | hl
    · rw [List.take_of_length_le (by omega)] at hU
      have : L.drop (j + (n + 1)) = [] := List.drop_eq_nil_of_le (by rw [List.length_drop] at hl; omega)
      rw [this, val_nil, hU]; omega
    · have := val_split B (L.drop j) (n + 1) hl
      rwa [hU, List.drop_drop] at this
  have h7 : val B (L.drop (j + (n + 1))) = 0 := by
    rcases Nat.eq_zero_or_pos (val B (L.drop (j + (n + 1)))) with h0 | h0
    · exact h0
    · have := Nat.le_mul_of_pos_right (B ^ (n + 1)) h0
      omega
  rw [h7, Nat.mul_zero, Nat.add_zero] at h6
  exact ⟨h6, by omega, h7⟩
theorem KnI.step {B X D N n j : Nat} {L q o : List Nat} (hB : 1 ≤ B) (h : KnI B X D N n (j + 1) L q) (hD : D ≤ B ^ n) (hD0 : 1 ≤ D) (hj : j + (n + 1) ≤ N) {U : Nat} (hU : val B ((L.drop j).take (n + 1)) = U) (ho : o.length = n + 1) (hod : Digs B o) (hov : val B o = U % D) :
    KnI B X D N n j ((L.take j ++ o) ++ L.drop (j + (n + 1))) (q.set j (U / D)) := by
  obtain ⟨h1, h2, h3⟩ := h.up hB hD hU
  have hlen := h.len
  have hq : U / D < B := by
    rw [Nat.div_lt_iff_lt_mul (by omega)]
    exact h2
  have hdrop : ((L.take j ++ o) ++ L.drop (j + (n + 1))).drop j = o ++ L.drop (j + (n + 1)) := by
    rw [List.append_assoc, List.drop_left' (by simp; omega)]
  have htake : ((L.take j ++ o) ++ L.drop (j + (n + 1))).take j = L.take j := by
    rw [List.append_assoc, List.take_left' (by simp; omega)]
  have hv : val B (o ++ L.drop (j + (n + 1))) = U % D := by rw [val_append, h3, Nat.mul_zero, Nat.add_zero, hov]
  refine ⟨by simp [ho]; omega, ((h.digs.take j).app hod).app (h.digs.drop _), by rw [List.length_set]; exact h.qlen, h.qdigs.set_ hq, by rw [hdrop, hv]; exact Nat.mod_lt _ (by omega), ?_⟩
  have hqj : j < q.length := by rw [h.qlen]; omega
  have e1 : val B ((q.set j (U / D)).drop j) = U / D + B * val B (q.drop (j + 1)) := by
    rw [List.drop_set, if_neg (by omega), Nat.sub_self, List.drop_eq_getElem_cons hqj, List.set_cons_zero, val_cons]
  have e2 : val B ((L.take j ++ o) ++ L.drop (j + (n + 1))) = val B (L.take j) + B ^ j * (U % D) := by
    rw [List.append_assoc, val_append, hv, List.length_take, Nat.min_eq_left (by omega)]
  have e3 : val B L = val B (L.take j) + B ^ j * U := by rw [val_split B L j (by omega), h1]
  rw [h.eq, e1, e2, e3, Nat.pow_succ]
  have e4 : B ^ j * U = B ^ j * (D * (U / D)) + B ^ j * (U % D) := by rw [← Nat.mul_add, Nat.div_add_mod]
  rw [e4, Nat.mul_add (B ^ j), Nat.mul_add D, ← Nat.mul_assoc (B ^ j) B, Nat.mul_left_comm D (B ^ j) (U / D)]
  omega
theorem KnI.done {B X D N n : Nat} {L q : List Nat} (h : KnI B X D N n 0 L q) : val B q = X / D ∧ val B L = X % D := by
  have h1 := h.eq
  have h2 := h.low
  rw [List.drop_zero] at h2
  rw [List.drop_zero, Nat.pow_zero, Nat.one_mul] at h1
  rw [h1]
  constructor
  · rw [Nat.add_mul_div_left _ _ (by omega), Nat.div_eq_of_lt h2, Nat.zero_add]
  · rw [Nat.add_mul_mod_self_left, Nat.mod_eq_of_lt h2]
/-- The estimate's state. -/
structure EsI (B T ld nx u0 Q dgt rest : Nat) : Prop where
  eq : dgt * ld + rest = T
  low : Q ≤ dgt
/-- What the estimate leans on. -/
structure EsB (B U D P T ld nx u0 Q : Nat) : Prop where
  un : (T * B + u0) * P ≤ U
  uo : U < (T * B + u0 + 1) * P
  dn : (nx + B * ld) * P ≤ D
  do_ : D < (nx + B * ld + 1) * P
  bp : B * P ≤ D
  qn : Q * D ≤ U
  qo : U < (Q + 1) * D
  qb : Q < B
  tb : T < ld * B + B
  ld1 : 1 ≤ ld
  ldb : ld < B
  nxb : nx < B
  u0b : u0 < B
theorem EsI.start {B U D P T ld nx u0 Q : Nat} (h : EsB B U D P T ld nx u0 Q) (hP : 1 ≤ P) : EsI B T ld nx u0 Q (T / ld) (T % ld) := by
  have h1 := h.ld1
  refine ⟨by have := Nat.div_add_mod T ld; rw [Nat.mul_comm]; exact this, ?_⟩
  rw [Nat.le_div_iff_mul_le (by omega)]
  -- Q * ld * B * P ≤ Q * D ≤ U < (T * B + u0 + 1) * P
  rcases Nat.lt_or_ge T (Q * ld) with hlt | hge
  · exfalso
    have e1 : (T * B + u0 + 1) * P ≤ (Q * ld * B) * P := by
      apply Nat.mul_le_mul_right
      have : (T + 1) * B ≤ Q * ld * B := Nat.mul_le_mul_right _ hlt
      rw [Nat.add_mul, Nat.one_mul] at this
      have := h.u0b
      omega
    have e2 : (Q * ld * B) * P ≤ Q * D := by
      have : Q * ld * B * P = Q * (B * ld * P) := by
        rw [Nat.mul_assoc Q ld B, Nat.mul_assoc, Nat.mul_comm ld B]
      rw [this]
      apply Nat.mul_le_mul_left
      refine Nat.le_trans ?_ h.dn
      exact Nat.mul_le_mul_right _ (by omega)
    have := h.qn
    have := h.uo
    omega
  · exact hge
/-- While the test says so the estimate is too great. -/
theorem EsI.down {B U D P T ld nx u0 Q dgt rest : Nat} (hb : EsB B U D P T ld nx u0 Q) (h : EsI B T ld nx u0 Q dgt rest) (ht : B ≤ dgt ∨ rest * B + u0 < dgt * nx) : 1 ≤ dgt ∧ EsI B T ld nx u0 Q (dgt - 1) (rest + ld) := by
  have hlt : Q < dgt := by
    rcases ht with ht | ht
    · have := hb.qb; omega
    · refine est_hi (N := U) (D := D) (U3 := T * B + u0) (D2 := nx + B * ld) (P := P) hb.uo hb.dn ?_ hb.qn
      have e := h.eq
      have e2 : T * B = dgt * (B * ld) + rest * B := by
        rw [← e, Nat.add_mul, Nat.mul_assoc, Nat.mul_comm ld B]
      rw [e2, Nat.mul_add]
      omega
  refine ⟨by omega, ?_, by omega⟩
  have e := h.eq
  obtain ⟨d, rfl⟩ : ∃ d, dgt = d + 1 := ⟨dgt - 1, by omega⟩
  rw [Nat.add_mul, Nat.one_mul] at e
  rw [Nat.add_sub_cancel]
  omega
theorem EsI.exit {B U D P T ld nx u0 Q dgt rest : Nat} (hb : EsB B U D P T ld nx u0 Q) (h : EsI B T ld nx u0 Q dgt rest) (ht : (dgt < B ∧ dgt * nx ≤ rest * B + u0) ∨ B ≤ rest) : dgt < B ∧ Q ≤ dgt ∧ dgt ≤ Q + 1 := by
  have e := h.eq
  have hlt : dgt < B ∧ dgt * nx ≤ rest * B + u0 := by
    rcases ht with ht | ht
    · exact ht
    · have h1 : dgt < B := by
        have := hb.tb
        have h2 : dgt * ld < B * ld := by rw [Nat.mul_comm B ld]; omega
        exact Nat.lt_of_mul_lt_mul_right h2
      refine ⟨h1, ?_⟩
      have h2 : dgt * nx ≤ B * B := Nat.mul_le_mul (by omega) (by have := hb.nxb; omega)
      have h3 : B * B ≤ rest * B := Nat.mul_le_mul_right _ ht
      omega
  refine ⟨hlt.1, h.low, ?_⟩
  refine est_lo (N := U) (D := D) (U3 := T * B + u0) (D2 := nx + B * ld) (P := P) (B := B) hb.un hb.do_ hb.bp hlt.1 ?_ hb.qo
  have e2 : T * B = dgt * (B * ld) + rest * B := by
    rw [← e, Nat.add_mul, Nat.mul_assoc, Nat.mul_comm ld B]
  rw [e2, Nat.mul_add]
  omega
end Go.Dig

namespace Go.Dig
set_option linter.unusedVariables false
structure TkI (a b : List Nat) (q k : Nat) (o : List Nat) (c r : Nat) : Prop where
  len : o.length = k
  digs : Digs 4294967296 o
  carry : c < 4294967296
  borrow : r ≤ 1
  eq : val 4294967296 o + q * val 4294967296 (b.take k) = val 4294967296 (a.take k) + 4294967296 ^ k * (c + r)
theorem TkI.start (a b : List Nat) (q : Nat) : TkI a b q 0 [] 0 0 := ⟨rfl, Digs.nil _, by omega, by omega, by simp⟩
theorem TkI.step {a b : List Nat} {q k : Nat} {o : List Nat} {c r v c' r' : Nat} (h : TkI a b q k o c r) (hv : v < 4294967296) (hc : c' < 4294967296) (hr : r' ≤ 1) (he : v + (c + q * dg b k) + r = dg a k + 4294967296 * (c' + r')) : TkI a b q (k + 1) (o ++ [v]) c' r' := by
  refine ⟨by simp [h.len], h.digs.snoc hv, hc, hr, ?_⟩
  rw [val_snoc, h.len, val_take_dg, val_take_dg, Nat.pow_succ, Nat.mul_assoc]
  have e := h.eq
  have e2 : 4294967296 ^ k * (v + (c + q * dg b k) + r) = 4294967296 ^ k * (dg a k + 4294967296 * (c' + r')) := by rw [he]
  simp only [Nat.mul_add] at e e2 ⊢
  have e3 : q * (4294967296 ^ k * dg b k) = 4294967296 ^ k * (q * dg b k) := Nat.mul_left_comm _ _ _
  omega
/-- The end: nothing is carried, and the borrow tells which is greater. -/
theorem TkI.done {a b : List Nat} {q m : Nat} {o : List Nat} {r : Nat} (h : TkI a b q m o 0 r) (ha : Digs 4294967296 a) (hb : b.length ≤ m) : (r = 0 ∧ val 4294967296 o + q * val 4294967296 b = val 4294967296 (a.take m)) ∨ (r = 1 ∧ val 4294967296 o + q * val 4294967296 b = val 4294967296 (a.take m) + 4294967296 ^ m ∧ val 4294967296 (a.take m) < q * val 4294967296 b) := by
  have e := h.eq
  rw [List.take_of_length_le hb, Nat.zero_add] at e
  have h1 := val_lt h.digs
  rw [h.len] at h1
  rcases (show r = 0 ∨ r = 1 by have := h.borrow; omega) with h0 | h0
  · left; subst h0; exact ⟨rfl, by omega⟩
  · right; subst h0; exact ⟨rfl, by omega, by omega⟩
end Go.Dig
namespace Go.Proofs.YtblcaeoeeepajaaGreatDoor
set_option linter.unusedVariables false
open Go.RowKit Go.Mem Go.Dig Go.Pure

end Go.Proofs.YtblcaeoeeepajaaGreatDoor

namespace Go.Proofs.YtblcaeoeeepajaaGreatDoor
set_option linter.unusedVariables false
open Go.RowKit Go.Mem Go.Dig Go.Pure

/-- The cells that the closure settle sees. -/
structure DvC (W : World) (g gd gq gN gn gD gQ N n : Nat) (ld : List Nat) (D : Nat) : Prop where
  bN : Blk W gN 27 #[.slice (some ⟨g, 0, none⟩) N N]
  bn : Blk W gn 3 #[.int .i64 n]
  bD : Blk W gD 27 #[.slice (some ⟨gd, 0, none⟩) n (n + 1)]
  bQ : Blk W gQ 27 #[.slice (some ⟨gq, 0, none⟩) (N - n) (N - n)]
  rd : Rd W (some ⟨gd, 0, none⟩) n (nv .u32 ld)
  dd : Digs 4294967296 ld
  vd : val 4294967296 ld = D
  pos : 1 ≤ D
  nN : n + 1 ≤ N
  big : N ≤ 1000000
  ne : g ≠ gq ∧ gd ≠ g ∧ gd ≠ gq ∧ gN ≠ g ∧ gN ≠ gq ∧ gn ≠ g ∧ gn ≠ gq ∧ gD ≠ g ∧ gD ≠ gq ∧ gQ ≠ g ∧ gQ ≠ gq
theorem DvC.chg {W W' : World} {g gd gq gN gn gD gQ N n : Nat} {ld : List Nat} {D : Nat} (h : DvC W g gd gq gN gn gD gQ N n ld D) (hc : Chg (fun k => k = g ∨ k = gq) W W') : DvC W' g gd gq gN gn gD gQ N n ld D := by
  have hne := h.ne
  refine ⟨h.bN.chg hc (by omega), h.bn.chg hc (by omega), h.bD.chg hc (by omega), h.bQ.chg hc (by omega), h.rd.chg hc (fun k hk _ e => ?_), h.dd, h.vd, h.pos, h.nN, h.big, h.ne⟩
  simp [blk] at hk
  omega
end Go.Proofs.YtblcaeoeeepajaaGreatDoor

namespace Go.Proofs.YtblcaeoeeepajaaGreatDoor
set_option linter.unusedVariables false
open Go.RowKit Go.Mem Go.Dig Go.Pure

theorem WM.chg {S : Nat → Prop} {w w' : World} {A : Option Addr} {n c m : Nat} (h : WM w A n c m) (hc : Chg S w w') (hs : ∀ k, blk A = some k → ¬ S k) : WM w' A n c m := by
  obtain ⟨l, h1, h2⟩ := h
  exact ⟨l, h1.chg hc (fun k hk _ => hs k hk), h2⟩
end Go.Proofs.YtblcaeoeeepajaaGreatDoor

namespace Go.Proofs.YtblcaeoeeepajaaGreatDoor
set_option linter.unusedVariables false
open Go.RowKit Go.Mem Go.Dig Go.Pure

end Go.Proofs.YtblcaeoeeepajaaGreatDoor

namespace Go.Proofs.YtblcaeoeeepajaaGreatDoor
set_option linter.unusedVariables false
open Go.RowKit Go.Mem Go.Dig Go.Pure
end Go.Proofs.YtblcaeoeeepajaaGreatDoor

namespace Go.Proofs.YtblcaeoeeepajaaGreatDoor
set_option linter.unusedVariables false
open Go.RowKit Go.Mem Go.Dig Go.Pure

end Go.Proofs.YtblcaeoeeepajaaGreatDoor

namespace Go.Txt
set_option linter.unusedVariables false
open Go.Lib (decDigits nDigits)

theorem snocRec {α : Type} {motive : List α → Prop} (nil : motive []) (snoc : ∀ l c, motive l → motive (l ++ [c])) (l : List α) : motive l := by
  rw [← List.reverse_reverse l]
  induction l.reverse with
  | nil => exact nil
  | cons a t ih => rw [List.reverse_cons]; exact snoc _ _ ih

theorem dec_small {u : Nat} (h : u < 10) : decDigits u = [UInt8.ofNat (48 + u)] := by rw [decDigits, dif_pos h]
theorem dec_big {u : Nat} (h : ¬ u < 10) : decDigits u = decDigits (u / 10) ++ [UInt8.ofNat (48 + u % 10)] := by rw [decDigits, dif_neg h]
/-- The last k digits of r. -/
def pad : Nat → Nat → List UInt8
  | 0, _ => []
  | k + 1, r => pad k (r / 10) ++ [UInt8.ofNat (48 + r % 10)]
theorem pad_len (k r : Nat) : (pad k r).length = k := by
  induction k generalizing r with
  | zero => rfl
  | succ k ih => simp [pad, ih]
theorem dec_pad (k : Nat) : ∀ (q r : Nat), r < 10 ^ k → 0 < q → decDigits (q * 10 ^ k + r) = decDigits q ++ pad k r := by
  induction k with
  | zero => intro q r hr hq; simp [pad] at hr ⊢; rw [hr]; rfl
  | succ k ih =>
    intro q r hr hq
    have hp : 1 ≤ 10 ^ k := Nat.one_le_pow _ _ (by decide)
    have e : q * 10 ^ (k + 1) = q * 10 ^ k * 10 := by rw [Nat.pow_succ, Nat.mul_assoc]
    have h1 : 10 ^ k ≤ q * 10 ^ k := Nat.le_mul_of_pos_left _ hq
    have h2 : r < 10 ^ k * 10 := by rwa [Nat.pow_succ] at hr
    rw [dec_big (by omega), pad, show (q * 10 ^ (k + 1) + r) / 10 = q * 10 ^ k + r / 10 by omega, ih q (r / 10) (by omega) hq, List.append_assoc, show (q * 10 ^ (k + 1) + r) % 10 = r % 10 by omega]
theorem rep_snoc (k : Nat) (a : UInt8) : List.replicate (k + 1) a = List.replicate k a ++ [a] := by
  rw [List.replicate_succ']
theorem pad_zero (k : Nat) : pad k 0 = List.replicate k 48 := by
  induction k with
  | zero => rfl
  | succ k ih => rw [pad, Nat.zero_div, ih, rep_snoc]; rfl
theorem pad_dec (k : Nat) : ∀ u, 1 ≤ k → u < 10 ^ k → pad k u = List.replicate (k - (decDigits u).length) 48 ++ decDigits u := by
  induction k with
  | zero => intro u h; omega
  | succ k ih =>
    intro u _ hu
    by_cases h : u < 10
    · rw [dec_small h, pad, Nat.div_eq_of_lt h, pad_zero, Nat.mod_eq_of_lt h]; simp
    · have hk : 1 ≤ k := by
        rcases Nat.eq_zero_or_pos k with h0 | h0
        · subst h0; simp at hu; omega
        · exact h0
      rw [dec_big h, pad, ih (u / 10) hk (by rw [Nat.pow_succ] at hu; omega), List.append_assoc]
      simp
theorem dec_len_le {u k : Nat} (hk : 1 ≤ k) (h : u < 10 ^ k) : (decDigits u).length ≤ k := by
  have h1 := congrArg List.length (pad_dec k u hk h)
  rw [pad_len] at h1
  simp at h1
  omega
theorem dec_len_pos (u : Nat) : 1 ≤ (decDigits u).length := by
  rw [Go.Lib.decDigits_length]; exact Go.Lib.nDigits_pos u

/-! ### digits -/
def isDig (c : UInt8) : Prop := 48 ≤ c.toNat ∧ c.toNat ≤ 57
instance (c : UInt8) : Decidable (isDig c) := inferInstanceAs (Decidable (_ ∧ _))
def AllDig (l : List UInt8) : Prop := ∀ c ∈ l, isDig c
theorem AllDig.nil : AllDig [] := fun _ h => by simp at h
theorem AllDig.append {a b : List UInt8} (ha : AllDig a) (hb : AllDig b) : AllDig (a ++ b) := fun c h => (List.mem_append.1 h).elim (ha c) (hb c)
theorem AllDig.left {a b : List UInt8} (h : AllDig (a ++ b)) : AllDig a := fun c hc => h c (List.mem_append.2 (.inl hc))
theorem AllDig.right {a b : List UInt8} (h : AllDig (a ++ b)) : AllDig b := fun c hc => h c (List.mem_append.2 (.inr hc))
theorem AllDig.take {a : List UInt8} (h : AllDig a) (k : Nat) : AllDig (a.take k) := fun c hc => h c (List.mem_of_mem_take hc)
theorem AllDig.drop {a : List UInt8} (h : AllDig a) (k : Nat) : AllDig (a.drop k) := fun c hc => h c (List.mem_of_mem_drop hc)
theorem dig_nat {d : Nat} (h : d < 10) : (UInt8.ofNat (48 + d)).toNat = 48 + d := by
  rw [UInt8.toNat_ofNat']; omega
theorem AllDig.one {d : Nat} (h : d < 10) : AllDig [UInt8.ofNat (48 + d)] := by
  intro c hc
  rw [List.mem_singleton] at hc
  subst hc
  unfold isDig
  rw [dig_nat h]; omega
theorem allDig_dec (u : Nat) : AllDig (decDigits u) := by
  induction u using Nat.strongRecOn with
  | _ u ih =>
    by_cases h : u < 10
    · rw [dec_small h]; exact AllDig.one h
    · rw [dec_big h]; exact (ih _ (by omega)).append (AllDig.one (by omega))
def decVal (l : List UInt8) : Nat := l.foldl (fun a c => a * 10 + (c.toNat - 48)) 0
theorem decVal_nil : decVal [] = 0 := rfl
theorem decVal_snoc (l : List UInt8) (c : UInt8) : decVal (l ++ [c]) = decVal l * 10 + (c.toNat - 48) := by simp [decVal]
theorem decVal_append (a b : List UInt8) : decVal (a ++ b) = decVal a * 10 ^ b.length + decVal b := by
  induction b using snocRec with
  | nil => simp [decVal_nil]
  | snoc b c ih =>
    rw [← List.append_assoc, decVal_snoc, ih, decVal_snoc, List.length_append, List.length_singleton, Nat.pow_succ, Nat.add_mul, Nat.mul_assoc, Nat.add_assoc]
theorem decVal_dec (u : Nat) : decVal (decDigits u) = u := by
  induction u using Nat.strongRecOn with
  | _ u ih =>
    by_cases h : u < 10
    · rw [dec_small h]
      simp [decVal, UInt8.toNat_ofNat']
      omega
    · rw [dec_big h, decVal_snoc, ih _ (by omega), dig_nat (by omega)]; omega
theorem decVal_lt {l : List UInt8} (h : AllDig l) : decVal l < 10 ^ l.length := by
  induction l using snocRec with
  | nil => simp [decVal_nil]
  | snoc l c ih =>
    have h1 := ih h.left
    have h2 := h.right c (by simp)
    rw [decVal_snoc, List.length_append, List.length_singleton, Nat.pow_succ]
    unfold isDig at h2
    omega
theorem byte_of_dig {c : UInt8} (h : isDig c) : UInt8.ofNat (48 + (c.toNat - 48)) = c := by
  unfold isDig at h
  rw [show 48 + (c.toNat - 48) = c.toNat by omega]
  exact UInt8.ofNat_toNat
/-- Digits without a zero ahead. -/
def Formed (l : List UInt8) : Prop := AllDig l ∧ (l = [48] ∨ ∃ c t, l = c :: t ∧ c ≠ 48)
theorem Formed.ne {l : List UInt8} (h : Formed l) : l ≠ [] := by
  rcases h.2 with rfl | ⟨c, t, rfl, _⟩ <;> simp
theorem dec_of_val {l : List UInt8} (h : Formed l) : decDigits (decVal l) = l := by
  obtain ⟨hd, h⟩ := h
  rcases h with rfl | ⟨c, t, rfl, hc⟩
  · rw [show decVal [48] = 0 by rfl, dec_small (by omega)]; rfl
  · induction t using snocRec with
    | nil =>
      have h1 := hd c (by simp)
      have : decVal [c] = c.toNat - 48 := by simp [decVal]
      unfold isDig at h1
      rw [this, dec_small (by omega), byte_of_dig h1]
    | snoc t x ih =>
      rw [← List.cons_append] at hd ⊢
      have h1 := hd.right x (by simp)
      have h2 := ih hd.left
      have hx := h1
      unfold isDig at h1
      have hpos : 0 < decVal (c :: t) := by
        rcases Nat.eq_zero_or_pos (decVal (c :: t)) with h0 | h0
        · exfalso
          rw [h0, dec_small (by omega)] at h2
          injection h2 with h3 h4
          exact hc h3.symm
        · exact h0
      rw [decVal_snoc, dec_big (by omega), show (decVal (c :: t) * 10 + (x.toNat - 48)) / 10 = decVal (c :: t) by omega, h2, show (decVal (c :: t) * 10 + (x.toNat - 48)) % 10 = x.toNat - 48 by omega, byte_of_dig hx]
theorem formed_dec (u : Nat) : Formed (decDigits u) := by
  refine ⟨allDig_dec u, ?_⟩
  induction u using Nat.strongRecOn with
  | _ u ih =>
    by_cases h : u < 10
    · rw [dec_small h]
      rcases Nat.eq_zero_or_pos u with h0 | h0
      · subst h0; left; rfl
      · right
        refine ⟨_, [], rfl, fun e => ?_⟩
        have := congrArg UInt8.toNat e
        rw [dig_nat h] at this
        simp at this
        omega
    · rw [dec_big h]
      right
      rcases ih (u / 10) (by omega) with e | ⟨c, t, e, hc⟩
      · exfalso
        have := decVal_dec (u / 10)
        rw [e] at this
        have h2 : decVal [48] = 0 := rfl
        omega
      · rw [e]; exact ⟨c, _, rfl, hc⟩
/-! ### texts of integers -/
def text (z : Int) : List UInt8 := if z < 0 then 45 :: decDigits z.natAbs else decDigits z.natAbs
theorem not45 {l : List UInt8} (h : AllDig l) {t : List UInt8} : l ≠ 45 :: t := by
  intro e; subst e
  have := h 45 (by simp)
  unfold isDig at this
  simp at this
theorem text_len {z : Int} {k : Nat} (hk : 1 ≤ k) (h : z.natAbs < 10 ^ k) : (text z).length ≤ k + 1 := by
  have := dec_len_le hk h
  unfold text
  split <;> simp <;> omega
/-- The sign and the rest of a text. -/
def body (l : List UInt8) : List UInt8 := if l.head? = some 45 then l.tail else l
/-- The integer with a text. -/
def Reads (l : List UInt8) (z : Int) : Prop := Formed (body l) ∧ ¬ (l.head? = some 45 ∧ body l = [48]) ∧ z = (if l.head? = some 45 then -(decVal (body l) : Int) else (decVal (body l) : Int))
theorem Reads.text {l : List UInt8} {z : Int} (h : Reads l z) : text z = l := by
  obtain ⟨h1, h2, h3⟩ := h
  have h4 := dec_of_val h1
  by_cases hs : l.head? = some 45
  · rw [if_pos hs] at h3
    obtain ⟨t, rfl⟩ : ∃ t, l = 45 :: t := by
      cases l with
      | nil => simp at hs
      | cons a t => simp at hs; exact ⟨t, by rw [hs]⟩
    have hb : body (45 :: t) = t := by simp [body]
    rw [hb] at h1 h2 h3 h4
    have hpos : 0 < decVal t := by
      rcases Nat.eq_zero_or_pos (decVal t) with h0 | h0
      · exfalso
        rw [h0, dec_small (by omega)] at h4
        exact h2 ⟨hs, h4.symm⟩
      · exact h0
    unfold Txt.text
    rw [if_pos (by omega), show z.natAbs = decVal t by omega, h4]
  · rw [if_neg hs] at h3
    have hb : body l = l := by simp [body, hs]
    rw [hb] at h1 h2 h3 h4
    unfold Txt.text
    rw [if_neg (by omega), show z.natAbs = decVal l by omega, h4]
theorem reads_text (z : Int) : Reads (text z) z := by
  have hf := formed_dec z.natAbs
  by_cases h : z < 0
  · have e : text z = 45 :: decDigits z.natAbs := by unfold text; rw [if_pos h]
    have hb : body (text z) = decDigits z.natAbs := by rw [e]; simp [body]
    have hh : (text z).head? = some 45 := by rw [e]; rfl
    refine ⟨by rw [hb]; exact hf, ?_, by rw [if_pos hh, hb, decVal_dec]; omega⟩
    rintro ⟨_, h2⟩
    rw [hb] at h2
    have := decVal_dec z.natAbs
    rw [h2] at this
    have h3 : decVal [48] = 0 := rfl
    omega
  · have e : text z = decDigits z.natAbs := by unfold text; rw [if_neg h]
    have hh : (text z).head? ≠ some 45 := by
      rw [e]
      intro hh
      cases hd : decDigits z.natAbs with
      | nil => rw [hd] at hh; simp at hh
      | cons a t => rw [hd] at hh; simp at hh; exact not45 (allDig_dec _) (by rw [hd, hh])
    have hb : body (text z) = decDigits z.natAbs := by rw [body, if_neg hh, e]
    exact ⟨by rw [hb]; exact hf, fun h => hh h.1, by rw [if_neg hh, hb, decVal_dec]; omega⟩
theorem Reads.body_len (l : List UInt8) : (body l).length ≤ l.length := by
  unfold body; split
  · simp
  · exact Nat.le_refl _
end Go.Txt

namespace Go.Proofs.YtblcaeoeeepajaaGreatDoor
set_option linter.unusedVariables false
open Go.RowKit Go.Mem Go.Dig
open Go.Lib (decDigits)

/-- The string with these bytes. -/
def St (l : List UInt8) : ByteArray := ⟨l.toArray⟩
theorem St_app (a b : List UInt8) : St a ++ St b = St (a ++ b) := by
  unfold St
  apply ByteArray.ext
  simp
theorem St_size (a : List UInt8) : (St a).size = a.length := by simp [St, ByteArray.size]
end Go.Proofs.YtblcaeoeeepajaaGreatDoor

namespace Go.Proofs.YtblcaeoeeepajaaGreatDoor
set_option linter.unusedVariables false
open Go.RowKit Go.Mem Go.Dig
open Go.Lib (decDigits)

theorem str_at {b : ByteArray} {l : List UInt8} (h : b = St l) {k : Nat} (hk : k < b.size) : l[k]? = some b[k] := by
  subst h
  rw [St_size] at hk
  rw [List.getElem?_eq_getElem hk]
  rfl

set_option maxHeartbeats 1000000 in
theorem digits_wide (b : ByteArray) (l : List UInt8) (hb : b = St l) (hn : b.size ≤ 5000) (r : Bool) (hr : r = true ↔ Txt.Formed l) (w : World) :
    Calls Tryz.prog 48 #[.string b] w fun e w' => e = .returned (.bool r) ∧ w = w' := by
  have hl : l.length = b.size := by rw [hb, St_size]
  have H0 := Lib.hid (And.intro hb (And.intro hl hr))
  clear hb hl hr
  go_enter Tryz.func48, Tryz.ntmps48
  go_wp2
  go_loop [3] (fun i => ∃ k : Nat, i = .int .i64 (k : Int) ∧ k ≤ b.size ∧ Hid (Txt.AllDig (l.take k))) (fun i => b.size - (intOf i).toNat)
  case atStart => exact ⟨0, rfl, by omega, by show Txt.AllDig _; rw [List.take_zero]; exact Txt.AllDig.nil⟩
  case round =>
    obtain ⟨k, rfl, hk, HA⟩ := hrel
    by_cases hlt : k < b.size
    · obtain ⟨hb, hl, hr⟩ := H0.out
      have hc := str_at hb hlt
      obtain ⟨c, hcc⟩ : ∃ c, b[k] = c := ⟨_, rfl⟩
      rw [hcc] at hc
      by_cases hd : Txt.isDig c
      · have hd' := hd
        unfold Txt.isDig at hd
        have h1 : decide ((c.toNat : Int) < 48) = false := by simp; omega
        have h2 : decide (57 < (c.toNat : Int)) = false := by simp; omega
        have HN : Hid (Txt.AllDig (l.take (k + 1))) := by
          show Txt.AllDig _
          rw [List.take_add_one, hc]
          refine HA.out.append (fun x hx => ?_)
          rw [show (some c).toList = [c] by rfl, List.mem_singleton] at hx
          subst hx
          exact hd'
        clear hb hl hr hc hd hd' HA
        go_wp2
        go_round
        case rel => exact ⟨k + 1, by go_num, by omega, HN⟩
        case measure => simp [intOf]; omega
      · have hrf : r = false := by
          cases r
          · rfl
          · exfalso
            exact hd ((hr.1 rfl).1 c (List.mem_of_getElem? hc))
        subst hrf
        unfold Txt.isDig at hd
        by_cases h1 : c.toNat < 48
        · have h1' : (c.toNat : Int) < 48 := by omega
          clear hb hl hr hc hd HA
          go_wp2
          go_ret
          exact ⟨rfl, rfl⟩
        · have h1' : decide ((c.toNat : Int) < 48) = false := by simp; omega
          have h2' : 57 < (c.toNat : Int) := by omega
          clear hb hl hr hc hd HA
          go_wp2
          go_ret
          exact ⟨rfl, rfl⟩
    · obtain rfl : b.size = k := by omega
      obtain ⟨hb, hl, hr⟩ := H0.out
      have hall : Txt.AllDig l := by have := HA.out; rwa [List.take_of_length_le (by omega)] at this
      have hge : decide (((b.size : Nat) : Int) < ((b.size : Nat) : Int)) = false := by simp
      cases l with
      | nil =>
        have hrf : r = false := by
          cases r
          · rfl
          · exact absurd rfl ((hr.1 rfl).ne)
        subst hrf
        have hbe : b = ⟨#[]⟩ := hb
        subst hbe
        clear hb hl hr hall HA hge
        go_wp2
        go_ret
        exact ⟨rfl, rfl⟩
      | cons c0 t =>
        have hpos : 0 < b.size := by rw [← hl]; simp
        have hc := str_at hb hpos
        simp at hc
        have htl : b.toList = c0 :: t := by rw [Lib.toList_data, hb]; simp [St]
        have hne : b.toList.isEmpty = false := by rw [htl]; rfl
        have hne2 : ¬ b.toList = [] := by rw [htl]; simp
        have hne3 : (!b.toList.isEmpty) = true := by rw [hne]; rfl
        by_cases h0 : c0 :: t = [48]
        · have hrt : r = true := hr.2 ⟨hall, .inl h0⟩
          subst hrt
          have hbe : b = ⟨#[48]⟩ := by rw [hb, h0]; rfl
          subst hbe
          clear hb hl hr hall HA hge hne hne2 hne3 htl hc hpos
          go_wp2
          go_ret
          exact ⟨rfl, rfl⟩
        · have hbe : (b.toList == [48]) = false := by rw [htl]; simpa using h0
          have hbe2 : ¬ b.toList = [48] := by rw [htl]; exact h0
          obtain ⟨c, hcc⟩ : ∃ c, b[0] = c := ⟨_, rfl⟩
          rw [hcc] at hc
          subst hc
          by_cases h48 : c0 = 48
          · have hrf : r = false := by
              cases r
              · rfl
              · exfalso
                rcases (hr.1 rfl).2 with h | ⟨a, t', h, ha⟩
                · exact h0 h
                · injection h with h1 h2
                  exact ha (h1 ▸ h48)
            subst hrf
            subst h48
            clear hb hl hr hall HA h0 htl
            go_wp2
            go_ret
            exact ⟨rfl, rfl⟩
          · have hrt : r = true := hr.2 ⟨hall, .inr ⟨c0, t, rfl, h48⟩⟩
            subst hrt
            have hcn : ((c0.toNat : Int) != 48) = true := by
              simp
              intro e
              apply h48
              exact UInt8.toNat_inj.1 (by simpa using (by omega : c0.toNat = 48))
            clear hb hl hr hall HA h0 htl
            go_wp2
            go_ret
            exact ⟨rfl, rfl⟩
end Go.Proofs.YtblcaeoeeepajaaGreatDoor

namespace Go.Mem
open Go.RowKit Go.Shelf

theorem wpListIn_app {F : Fence} {d : Nat} {P : Program} {w : World} {base : Nat} {t e : TypeId} {z : Value} {bytes : Nat} (hE : Elem P t e z bytes) {ops : Array Oper} {rest : List Oper} {o : Oper} {a : Act} {Q : Exit → Act → World → Prop} (hgd : o.guard = none) (s x : Operand)
    (ho : o.op = .call { callee := .builtin .append, args := #[s, x], argTypes := #[t, t] })
    {A0 : Option Addr} {n c0 : Nat} {xs : List Value} (hs : a.eval s = .slice A0 n c0) (hown : w.ownsRow base e 1 (.slice A0 n c0) n xs)
    {A : Option Addr} {m c : Nat} {news : List Value} (hx : a.eval x = .slice A m c) (hr : Rd w A m news) (h1 : ∀ u ∈ news, u.oneCell' = true)
    (h63 : n + m ≤ maxLen) (hbytes : (n + m) * bytes ≤ 140737488355328) (hbase : base ≤ w.heap.size)
    (h : ∀ A' c' w', w'.ownsRow base e 1 (.slice A' (n + m) c') (n + m) (xs ++ news) → w.grownBy w' (blk A0) → (blk A' = blk A0 ∨ blk A' = some w.heap.size) → wpListIn F d P ops Q rest (a.put o.dst (.slice A' (n + m) c')) w') :
    wpListIn F d P ops Q (o :: rest) a w := by
  refine wpListIn_plain hgd fun K hK => ?_
  obtain ⟨A', c', w', hrun, h2, h3, h4⟩ := run_app (P := P) hE o.type hown hr h1 h63 hbytes hbase
  unfold Oper.wpIn
  refine ⟨?_, ?_⟩
  · simp [Oper.about, ho, resolve, Target.leads, Sem.run_pure]
  · rw [Oper.semAt_plain F _ _ (by rw [ho]; intro c hc'; cases hc')]
    simp only [execOp, ho, resolve, invoke, builtin, Sem.run_bind, Sem.run_pure, Result.andThen_ok, List.map_toArray, List.map_cons, List.map_nil, hs, hx]
    rw [hrun]
    exact hK _ _ (h A' c' w' h2 h3 h4)

theorem blk_kept {W W' : World} {row : Option Nat} {g : Nat} {t : TypeId} {cs : Array Value} (hs : Blk W g t cs) (hg : W.grownBy W' row) (hr : ∀ r, row = some r → ∃ o : Obj, W.heap[r]? = some o ∧ o.isCells = false) : Blk W' g t cs :=
  hs.grown hg (fun e => by
    obtain ⟨o, ho, hc⟩ := hr g e
    unfold Blk at hs
    rw [hs] at ho
    cases ho
    simp [Obj.isCells] at hc)
theorem own_blk (g : Nat) (t : TypeId) {β : Type} (cs : β → Array Value) : Own (fun (x : β) W => Blk W g t (cs x)) := fun _ _ _ _ hs hg hr => blk_kept hs hg hr
theorem row_kept {W W' : World} {row : Option Nat} {base n c : Nat} {e : TypeId} {A : Option Addr} {xs : List Value} (hs : W.ownsRow base e 1 (.slice A n c) n xs) (hg : W.grownBy W' row) (hr : ∀ r, row = some r → ∃ o : Obj, W.heap[r]? = some o ∧ o.isCells = false) : W'.ownsRow base e 1 (.slice A n c) n xs := by
  refine ⟨hs.1, ?_⟩
  rcases hs.2 with h0 | ⟨g, cap, cur, hv, hb, hh, r⟩
  · exact .inl h0
  · refine .inr ⟨g, cap, cur, hv, hb, ?_, r⟩
    refine (hg.block g (Array.getElem?_eq_some_iff.1 hh).1 (fun e => ?_)).trans hh
    obtain ⟨o, ho, hc⟩ := hr g e.symm
    rw [hh] at ho
    cases ho
    simp [Obj.isCells] at hc
theorem rd_kept {W W' : World} {row : Option Nat} {n : Nat} {A : Option Addr} {xs : List Value} (hs : Rd W A n xs) (hg : W.grownBy W' row) (hr : ∀ r, row = some r → ∃ o : Obj, W.heap[r]? = some o ∧ o.isCells = false) : Rd W' A n xs :=
  ⟨hs.1, fun hn => by
    obtain ⟨ad, rfl, hc⟩ := hs.2 hn
    exact ⟨ad, rfl, fun j u hu => cell_kept (hc j u hu) hg hr⟩⟩

theorem conv_new (w : World) (e : TypeId) (s : ByteArray) : New w (Lib.bytesWorld w e s) :=
  ⟨rfl, rfl, rfl, by rw [Lib.bytesWorld_size]; omega, fun k hk _ => Lib.bytesWorld_at_old w e s k hk⟩
theorem conv_rd (w : World) (e : TypeId) (s : ByteArray) : Rd (Lib.bytesWorld w e s) (some ⟨w.heap.size, 0, none⟩) s.size (bs s.data.toList) := by
  refine ⟨by simp, fun _ => ⟨_, rfl, fun j u hu => ?_⟩⟩
  obtain ⟨c, hc, rfl⟩ := bs_at hu
  rw [Addr.add_lit, Nat.zero_add]
  have hj : j < s.size := by have := (List.getElem?_eq_some_iff.1 hc).1; simpa using this
  rw [Lib.bytesWorld_cell w e s j hj, List.getD_eq_getElem?_getD, hc]
  rfl

/-- The blocks of K are as they were. -/
def Keep (K : Nat → Prop) (W W' : World) : Prop := ∀ k, K k → W'.heap[k]? = W.heap[k]?
theorem Keep.refl (K : Nat → Prop) (W : World) : Keep K W W := fun _ _ => rfl
theorem Keep.trans {K : Nat → Prop} {A B C : World} (h : Keep K A B) (h' : Keep K B C) : Keep K A C := fun k hk => (h' k hk).trans (h k hk)
theorem Keep.cell {K : Nat → Prop} {W W' : World} (h : Keep K W W') {p : Addr} (hp : K p.block) : W'.cell? p = W.cell? p := World.cell?_of_block (h p.block hp)
theorem Keep.rd {K : Nat → Prop} {W W' : World} (h : Keep K W W') {A : Option Addr} {n : Nat} {xs : List Value} (hr : Rd W A n xs) (hA : ∀ k, blk A = some k → K k) : Rd W' A n xs :=
  ⟨hr.1, fun hn => by
    obtain ⟨ad, rfl, hc⟩ := hr.2 hn
    refine ⟨ad, rfl, fun j u hu => ?_⟩
    rw [h.cell (by rw [block_add]; exact hA _ rfl)]
    exact hc j u hu⟩
theorem Keep.of_chg {K S : Nat → Prop} {W W' : World} (h : Chg S W W') (hk : ∀ k, K k → k < W.heap.size ∧ ¬ S k) : Keep K W W' := fun k hK => h.block k (hk k hK).1 (hk k hK).2
/-- What only changes cells keeps everything else. -/
theorem KeepsOthers.of_grown {W W' : World} {row : Option Nat} {g : Nat} {t : TypeId} {cs : Array Value} {fz : Nat × Nat} (hg : W.grownBy W' row) (hrow : row = some g) (hb : W.heap[g]? = some (.cells cs t fz)) : KeepsOthers W W' :=
  ⟨hg.size, fun k o hk ho => (hg.block k (Array.getElem?_eq_some_iff.1 hk).1 (fun e => by
    rw [hrow] at e
    cases e
    rw [hb] at hk
    cases hk
    simp [Obj.isCells] at ho)).trans hk⟩
theorem KeepsOthers.of_app {W W' : World} {base n c : Nat} {e : TypeId} {A : Option Addr} {xs : List Value} (hs : W.ownsRow base e 1 (.slice A n c) n xs) (hg : W.grownBy W' (blk A)) : KeepsOthers W W' := by
  rcases hs.2 with ⟨hv, _⟩ | ⟨g, cap, cur, hv, hb, hh, r⟩
  · injection hv with hv
    subst hv
    exact ⟨hg.size, fun k o hk _ => (hg.block k (Array.getElem?_eq_some_iff.1 hk).1 (by simp [blk])).trans hk⟩
  · injection hv with hv
    subst hv
    exact KeepsOthers.of_grown hg rfl hh
end Go.Mem

namespace Go.Txt
set_option linter.unusedVariables false
theorem decFrom_val {l : List UInt8} (h : AllDig l) : ∀ a, Lib.decFrom a l = some (a * 10 ^ l.length + decVal l) := by
  induction l using snocRec with
  | nil => intro a; simp [Lib.decFrom, decVal_nil]
  | snoc l c ih =>
    intro a
    have hc := h.right c (by simp)
    have h1 := ih h.left a
    have h2 := Lib.decFrom_take (l ++ [c]) l.length a (a * 10 ^ l.length + decVal l) c (c.toNat - 48) (by rw [List.take_left' rfl]; exact h1) (by simp) (by unfold Lib.digitVal; unfold isDig at hc; rw [if_pos hc])
    rw [List.take_of_length_le (by simp)] at h2
    rw [h2, decVal_snoc, List.length_append, List.length_singleton, Nat.pow_succ]
    congr 1
    rw [Nat.add_mul, Nat.mul_assoc, Nat.add_assoc]
theorem atoi_val {l : List UInt8} (h : AllDig l) (hn : l ≠ []) : Lib.atoi l = some (decVal l : Int) := by
  cases l with
  | nil => exact absurd rfl hn
  | cons c t =>
    have hc := h c (by simp)
    unfold isDig at hc
    have h1 : (c == 45) = false := by simp; intro e; subst e; simp at hc
    have h2 : (c == 43) = false := by simp; intro e; subst e; simp at hc
    simp only [Lib.atoi, h1, h2, Bool.false_eq_true, if_false, Lib.decNat, List.isEmpty_cons]
    rw [decFrom_val h 0]
    simp
theorem hasPrefix45 (l : List UInt8) : Lib.hasPrefix l [45] = decide (l.head? = some 45) := by
  unfold Lib.hasPrefix
  cases l with
  | nil => simp [List.isPrefixOf]
  | cons a t =>
    simp only [List.isPrefixOf, Bool.and_true, List.head?_cons, Option.some.injEq]
    rw [Bool.eq_iff_iff, beq_iff_eq, decide_eq_true_iff]
    exact ⟨fun h => h.symm, fun h => h.symm⟩
theorem trimPrefix45 (l : List UInt8) : Lib.trimPrefix l [45] = body l := by
  unfold Lib.trimPrefix body
  rw [hasPrefix45]
  by_cases h : l.head? = some 45
  · simp [h]
  · simp [h]
end Go.Txt
namespace Go.Proofs.YtblcaeoeeepajaaGreatDoor
set_option linter.unusedVariables false
open Go.RowKit Go.Mem Go.Dig
open Go.Lib (decDigits)

theorem St_dat (l : List UInt8) : (St l).data.toList = l := by simp [St]
theorem St_take (l : List UInt8) (k : Nat) : (St l).extract 0 k = St (l.take k) := by
  apply ByteArray.ext
  simp [St]
theorem St_drop (l : List UInt8) (k : Nat) : (St l).extract k (St l).size = St (l.drop k) := by
  apply ByteArray.ext
  simp [St, ByteArray.size]
  rw [List.take_of_length_le (by simp)]

theorem cut_any (b : ByteArray) (l : List UInt8) (hb : b = St l) (w : World) :
    Calls Tryz.prog 47 #[.string b, .string ⟨#[45]⟩] w fun e w' => e = .returned (.tuple #[.string (St (Txt.body l)), .bool (decide (l.head? = some 45))]) ∧ w = w' := by
  refine (Tryz.strings_CutPrefix b ⟨#[45]⟩ w).mono ?_
  rintro e w' ⟨rfl, rfl⟩
  subst hb
  rw [St_dat, show (⟨#[45]⟩ : ByteArray).data.toList = [45] by rfl, Txt.trimPrefix45, Txt.hasPrefix45]
  exact ⟨rfl, rfl⟩
theorem atoi_any (b : ByteArray) (l : List UInt8) (hb : b = St l) (h : Txt.AllDig l) (hn : l ≠ []) (h9 : l.length ≤ 9) (w : World) :
    Calls Tryz.prog 49 #[.string b] w fun e w' => e = .returned (.tuple #[.int .i64 (Txt.decVal l : Int), .nilIface]) ∧ New w w' := by
  subst hb
  refine (Tryz.strconv_Atoi (St l) (Txt.decVal l) (by rw [St_size]; omega) (by rw [St_dat]; exact Txt.atoi_val h hn) w).mono ?_
  rintro e w' ⟨rfl, t, rfl⟩
  exact ⟨rfl, conv_new _ _ _⟩

theorem sg_reads {l : List UInt8} {z : Int} (h : Txt.Reads l z) : sg (decide (l.head? = some 45)) (Txt.decVal (Txt.body l)) = z := by
  rw [h.2.2]
  unfold sg
  by_cases hs : l.head? = some 45 <;> simp [hs]
theorem WD.lit1 {W : World} {g d : Nat} {t : TypeId} (hb : Blk W g t #[.int .u32 (d : Int)]) (hd : d < 4294967296) : WD W (some ⟨g, 0, none⟩) 1 1 d := by
  refine ⟨[d], ⟨rfl, fun _ => ⟨_, rfl, fun j u hu => ?_⟩⟩, Nat.le_refl _, by omega, ⟨Digs.cons hd (Digs.nil _), by simp [val_cons, val_nil]⟩⟩
  match j, hu with
  | 0, hu =>
    simp [nv] at hu
    subst hu
    rw [Addr.add_lit]
    exact hb.cell 0 rfl
theorem WM.lit1 {W : World} {g d : Nat} {t : TypeId} (hb : Blk W g t #[.int .u32 (d : Int)]) (hd : d < 4294967296) (h1 : 1 ≤ d) : WM W (some ⟨g, 0, none⟩) 1 1 d := by
  obtain ⟨l, h2, h3, h4, h5⟩ := WD.lit1 hb hd
  refine ⟨[d], ?_, h3, h4, ⟨Digs.cons hd (Digs.nil _), by simp [Trim]; omega, by simp [val_cons, val_nil]⟩⟩
  refine ⟨rfl, fun _ => ⟨_, rfl, fun j u hu => ?_⟩⟩
  match j, hu with
  | 0, hu =>
    simp [nv] at hu
    subst hu
    rw [Addr.add_lit]
    exact hb.cell 0 rfl
theorem val_bound {l : List UInt8} (h : Txt.AllDig l) {k : Nat} (hk : l.length ≤ k) : Txt.decVal l < 4294967296 ^ k :=
  Nat.lt_of_lt_of_le (Txt.decVal_lt h) (Nat.le_trans (Nat.pow_le_pow_left (by omega) _) (Nat.pow_le_pow_right (by omega) hk))
theorem val_chunk (t : List UInt8) (k j : Nat) (hj : k + j ≤ t.length) (h9 : k = 0 ∨ j = 9) : Txt.decVal (t.take k) * 1000000000 + Txt.decVal ((t.drop k).take j) = Txt.decVal (t.take (k + j)) := by
  rw [List.take_add, Txt.decVal_append, List.length_take, Nat.min_eq_left (by simp; omega)]
  rcases h9 with h | h
  · subst h
    rw [List.take_zero, Txt.decVal_nil]
    omega
  · subst h; rfl

set_option maxHeartbeats 4000000 in
set_option maxRecDepth 100000 in
theorem wparse_ok (b : ByteArray) (l : List UInt8) (hb : b = St l) (hn : b.size ≤ 5000) (z : Int) (h : Txt.Reads l z) (w : World) :
    Calls Tryz.prog 18 #[.string b] w fun e w' => ∃ s A n c, e = .returned (.tuple #[.agg #[.bool s, .slice A n c], .int .i64 (rgE z)]) ∧ Hid (WI w' (.agg #[.bool s, .slice A n c]) (rg z) ∧ New w w') := by
  have h1 : decide ((5000 : Int) < (b.size : Int)) = false := by simp; omega
  have h1' : decide (5000 < b.size) = false := by simp; omega
  have hcut := cut_any b l hb
  obtain ⟨c, hc⟩ : ∃ c, St (Txt.body l) = c := ⟨_, rfl⟩
  have hbl := Txt.Reads.body_len l
  have hcs : c.size ≤ 5000 := by rw [← hc, St_size]; rw [hb, St_size] at hn; omega
  obtain ⟨g, hg⟩ : ∃ g, decide (l.head? = some 45) = g := ⟨_, rfl⟩
  rw [hc, hg] at hcut
  have hdg := digits_wide c (Txt.body l) hc.symm hcs true ⟨fun _ => h.1, fun _ => rfl⟩
  have hall := h.1.1
  have hsg := sg_reads h
  rw [hg] at hsg
  obtain ⟨t, ht⟩ : ∃ t, Txt.body l = t := ⟨_, rfl⟩
  rw [ht] at hc hall hsg
  have hneg : g = false ∨ (g = true ∧ (c.toList == [48]) = false) := by
    by_cases h45 : l.head? = some 45
    · right
      refine ⟨by rw [← hg]; simp [h45], ?_⟩
      have h2 := h.2.1
      have : t ≠ [48] := fun e => h2 ⟨h45, by rw [ht, e]⟩
      rw [Lib.toList_data, ← hc, St_dat]
      simpa using this
    · left; rw [← hg]; simp [h45]
  obtain ⟨E, hE⟩ : ∃ E, rgE z = E := ⟨_, rfl⟩
  rw [hE]
  have htl : t.length = c.size := by rw [← hc, St_size]
  have HC := Lib.hid (And.intro hcut hdg)
  have H0 := Lib.hid (And.intro hc (And.intro hall (And.intro hsg (And.intro hE htl))))
  clear hcut hdg hb h hc hg hbl hall hsg ht hE htl
  go_enter Tryz.func18, Tryz.ntmps18
  go_wp2_with fail
  refine Calls.new1 ?_
  intro W hbW hnW hzW
  refine (HC.out.1 W).mono ?_
  rintro e w1 ⟨rfl, rfl⟩
  go_wp2_with fail
  refine (HC.out.2 W).mono ?_
  rintro e w1 ⟨rfl, rfl⟩
  have HW := Lib.hid (And.intro hbW (And.intro hnW hzW))
  clear hbW hnW hzW HC
  have hneg2 : g = false ∨ (g = true ∧ (c.toList == [48]) = false ∧ ¬ c.toList = [48]) := by
    rcases hneg with h | ⟨h, h2⟩
    · exact .inl h
    · exact .inr ⟨h, h2, by simpa using h2⟩
  clear hneg
  have hran : ∀ R m d wo, WM wo R m d (Txt.decVal t) → Calls Tryz.prog 32 #[.bool g, .slice R m d] wo fun e w' => ∃ s' A' n' c', e = .returned (.tuple #[.agg #[.bool s', .slice A' n' c'], .int .i64 E]) ∧ Hid (WI w' (.agg #[.bool s', .slice A' n' c']) (rg z) ∧ New wo w') := fun R m d wo hwm => by
    have := ranged_wm g R m d _ wo hwm
    rw [H0.out.2.2.1, H0.out.2.2.2.1] at this
    exact this
  have HRAN := Lib.hid hran
  clear hran
  rcases hneg2 with h | ⟨h, h48, h48'⟩ <;> subst h
  all_goals
    go_wp2_with fail
    (try clear h48 h48')
    go_loopw [4, 6, 7, 8, 9] (fun s4 s6 _ _ _ wr => ∃ (k : Nat) (b' : ByteArray) (R : Option Addr) (m d : Nat), s4 = .string b' ∧ s6 = .slice R m d ∧ k + b'.size = c.size ∧ (k = 0 ∨ b'.size % 9 = 0) ∧ Hid (b' = St (t.drop k) ∧ WM wr R m d (Txt.decVal (t.take k)) ∧ New W wr)) (fun s4 _ _ _ _ _ => match s4 with | .string b => b.size | _ => 0)
    case atStart => exact ⟨0, c, none, 0, 0, rfl, rfl, by omega, .inl rfl, H0.out.1.symm, WM.zero _, Chg.refl _ _⟩
    case round =>
      obtain ⟨k, b', R, m, d, rfl, rfl, hkc, hk9, HI⟩ := hrel
      obtain ⟨wo, rfl⟩ : ∃ wo : World, wo = wr := ⟨_, rfl⟩
      obtain ⟨hc, hall, hsg, hE, htl⟩ := H0.out
      obtain ⟨hb', hwm, hnw⟩ := HI.out
      have hm : m ≤ 5000 := Nat.le_trans (hwm.len (val_bound (hall.take k) (k := c.size) (by simp; omega))) hcs
      by_cases h0 : b'.size = 0
      · have hpos : decide ((0 : Int) < ((b'.size : Nat) : Int)) = false := by rw [h0]; rfl
        have hpos' : decide (0 < b'.size) = false := by rw [h0]; rfl
        have hk : k = t.length := by omega
        rw [hk, List.take_length] at hwm
        have hran := HRAN.out R m d wo hwm
        have hbw := HW.out.1.chg hnw (fun h => h)
        have HR := Lib.hid (And.intro hran (And.intro hbw hnw))
        clear hc hall hsg hE htl hb' hwm hnw hk hran hbw HI h0
        go_wp2_with fail
        refine HR.out.1.mono ?_
        rintro e w5 ⟨s5, A5, n5, c5, rfl, H5⟩
        have hb5 := HR.out.2.1.chg H5.out.2 (fun h => h)
        have g0 := hb5.cell 0 rfl
        have g1 := hb5.cell 1 rfl
        have f0 := hb5.frozen 0
        have f1 := hb5.frozen 1
        have HB := Lib.hid hb5
        clear hb5
        go_wp2
        refine bodyPost_ret (res_ct rfl _ rfl (aggInt.load (HB.out.set2 _ _)) rfl) rfl ⟨s5, A5, n5, c5, rfl, H5.out.1.store HB.out (noInt_two _ _ _ _) (Chg.at2 _ _ _ _), ?_⟩
        exact Chg.owned ((HW.out.2.1.new HR.out.2.2).new H5.out.2) (Chg.at2 _ _ _ _) (fun k e => by omega)
      · have hpos : (0 : Int) < ((b'.size : Nat) : Int) := by omega
        have hpos' : 0 < b'.size := by omega
        obtain ⟨p, hp⟩ : ∃ p, b'.size - 1 = p := ⟨_, rfl⟩
        obtain ⟨q, hq⟩ : ∃ q, p % 9 = q := ⟨_, rfl⟩
        obtain ⟨j, hj⟩ : ∃ j, q + 1 = j := ⟨_, rfl⟩
        have hpi : ((b'.size : Nat) : Int) - 1 = (p : Int) := by omega
        have hqi : (p : Int) % 9 = (q : Int) := by omega
        have hji : (q : Int) + 1 = (j : Int) := by omega
        have hj9 : j ≤ 9 := by omega
        have hjb : j ≤ b'.size := by omega
        have hjk : k = 0 ∨ j = 9 := by omega
        have hrest : (b'.size - j) % 9 = 0 := by omega
        have hdl : (t.drop k).length = b'.size := by simp; omega
        obtain ⟨b1, hb1⟩ : ∃ x, St ((t.drop k).take j) = x := ⟨_, rfl⟩
        obtain ⟨b2, hb2⟩ : ∃ x, St ((t.drop k).drop j) = x := ⟨_, rfl⟩
        have hb2s : b2.size = b'.size - j := by rw [← hb2, St_size, List.length_drop, hdl]
        have hs1 : ∀ W, (Instr.slice 9 (.string b') none (some (.int .i64 (j : Int))) none).run Tryz.prog W = .ok (.string b1) W := fun W => by
          rw [run_slice_string_h W 9 b' Tryz.underlying9 .i64 (j : Int) (by omega) (by omega), Int.toNat_natCast, hb', St_take, hb1]
        have hs2 : ∀ W, (Instr.slice 9 (.string b') (some (.int .i64 (j : Int))) none none).run Tryz.prog W = .ok (.string b2) W := fun W => by
          rw [run_slice_string_l W 9 b' Tryz.underlying9 .i64 (j : Int) (by omega) (by omega), Int.toNat_natCast, hb', St_drop, hb2]
        have hat := atoi_any b1 ((t.drop k).take j) hb1.symm ((hall.drop k).take j) (by intro e; have := congrArg List.length e; simp at this; omega) (by simp; omega)
        have hPb := Txt.decVal_lt ((hall.drop k).take j)
        have hval := val_chunk t k j (by omega) hjk
        obtain ⟨P, hP⟩ : ∃ P, Txt.decVal ((t.drop k).take j) = P := ⟨_, rfl⟩
        obtain ⟨V, hV⟩ : ∃ V, Txt.decVal (t.take k) = V := ⟨_, rfl⟩
        rw [hP] at hat hPb hval
        rw [hV] at hwm hval
        have hPb2 : P < 1000000000 := by
          refine Nat.lt_of_lt_of_le hPb ?_
          refine Nat.le_trans (Nat.pow_le_pow_right (by omega) (show ((t.drop k).take j).length ≤ 9 by simp; omega)) (by decide)
        have HR := Lib.hid (And.intro hwm (And.intro hnw (And.intro hval (And.intro hat (show b2 = St (t.drop (k + j)) by rw [← hb2, List.drop_drop])))))
        have HRE := Lib.hid (And.intro hrest (And.intro hb2s (show j + b2.size = b'.size by omega)))
        clear hc hall hsg hE htl hb' hwm hnw HI h0 hp hq hj hjk hrest hdl hb1 hb2 hb2s hat hPb hval hP hV
        go_wp2_with fail
        refine (HR.out.2.2.2.1 wo).mono ?_
        rintro e w2 ⟨rfl, hn2⟩
        have HN2 := Lib.hid hn2
        clear hn2
        have hPi : (P : Int) % 4294967296 = (P : Int) := by omega
        go_wp2_with fail
        refine Calls.new1 ?_
        intro W3 hb3 hn3 hz3
        refine (mulMag_any R m d _ 1 1 V 1000000000 W3 ((HR.out.1.new HN2.out).new hn3) (WM.lit1 (d := 1000000000) hb3 (by omega) (by omega)) (by omega) (by omega)).mono ?_
        rintro e w4 ⟨R4, m4, d4, rfl, H4⟩
        have HN3 := Lib.hid hn3
        clear hb3 hn3 hz3
        have hm4 : m4 ≤ 5000 := by
          obtain ⟨hc, hall, hsg, hE, htl⟩ := H0.out
          have hb := val_bound (hall.take (k + j)) (k := c.size) (by simp; omega)
          rw [← HR.out.2.2.1] at hb
          exact Nat.le_trans (H4.out.1.len (k := c.size) (Nat.lt_of_le_of_lt (Nat.le_add_right _ _) hb)) hcs
        go_wp2_with fail
        refine Calls.new1 ?_
        intro W5 hb5 hn5 hz5
        refine (addMag_wd R4 m4 d4 _ 1 1 (V * 1000000000) P W5 (H4.out.1.new hn5).wd (WD.lit1 hb5 (by omega)) (by omega) (by omega)).mono ?_
        rintro e w6 ⟨R6, m6, d6, rfl, H6⟩
        have HN5 := Lib.hid hn5
        clear hb5 hn5 hz5
        go_wp2_with fail
        go_roundw
        case rel =>
          refine ⟨k + j, b2, R6, m6, d6, rfl, rfl, by have := HRE.out.2.2; omega, .inr (by rw [HRE.out.2.1]; exact HRE.out.1), HR.out.2.2.2.2, ?_, ?_⟩
          · have := H6.out.1
            rwa [HR.out.2.2.1] at this
          · exact ((((HR.out.2.1.new HN2.out).new HN3.out).new H4.out.2.2).new HN5.out).new H6.out.2
        case measure =>
          show b2.size < b'.size
          have := HRE.out.2.1
          omega
end Go.Proofs.YtblcaeoeeepajaaGreatDoor

namespace Go.Proofs.YtblcaeoeeepajaaGreatDoor
set_option linter.unusedVariables false
open Go.RowKit Go.Mem Go.Dig
open Go.Lib (decDigits)

/-- The library's table of powers of ten lies as its text lays it. -/
def PowTab (w : World) : Prop := Lib.TabIs Tryz.prog w "internal/strconv.uint64pow10" .u64 Lib.pow10Tab
theorem PowTab.chg {S : Nat → Prop} {w w' : World} (h : PowTab w) (hc : Chg S w w') (hs : ∀ g, Tryz.prog.globalNamed "internal/strconv.uint64pow10" = some g → ¬ S g) : PowTab w' := by
  unfold PowTab Lib.TabIs World.var? at h ⊢
  cases hg : Tryz.prog.globalNamed "internal/strconv.uint64pow10" with
  | none => rw [hg] at h; simp at h
  | some g =>
    rw [hg] at h
    simp only [Option.bind_some] at h ⊢
    cases ho : w.heap[g]? with
    | none => rw [ho] at h; simp at h
    | some o =>
      rw [hc.heap ho (hs g hg)]
      rw [ho] at h
      exact h
theorem PowTab.new {w w' : World} (h : PowTab w) (hc : New w w') : PowTab w' := h.chg hc (fun _ _ h => h)
theorem grow_new (w : World) (k : Nat) (os : Array Obj) : New w (Sort.grow (w.drewN k) os) := by
  refine ⟨rfl, rfl, rfl, by simp [Sort.grow, World.drewN], fun j hj _ => ?_⟩
  simp only [Sort.grow, World.drewN]
  rw [Array.getElem?_append_left hj]

theorem itoa_any (d : Nat) (hd : d < 1000000000) (w : World) (ht : PowTab w) :
    Calls Tryz.prog 37 #[.int .i64 (d : Int)] w fun e w' => e = .returned (.string (St (decDigits d))) ∧ New w w' := by
  refine (Tryz.strconv_Itoa (d : Int) (by omega) (by omega) w ht).mono ?_
  rintro e w' ⟨rfl, k, os, rfl⟩
  refine ⟨?_, grow_new _ _ _⟩
  have : Lib.itoa (d : Int) = decDigits d := by
    unfold Lib.itoa
    rw [if_neg (by omega), Int.toNat_natCast]
  rw [this]
  rfl
theorem repeatL_rep (c : Nat) : Lib.repeatL [48] c = List.replicate c 48 := by
  induction c with
  | zero => rfl
  | succ c ih => rw [Lib.repeatL, ih, List.replicate_succ]; rfl
theorem repeat_any (c : Nat) (hc : c ≤ 9) (w : World) :
    Calls Tryz.prog 38 #[.string ⟨#[48]⟩, .int .i64 (c : Int)] w fun e w' => e = .returned (.string (St (List.replicate c 48))) ∧ New w w' := by
  refine (Tryz.strings_Repeat ⟨#[48]⟩ c w (by omega) (by rw [show (⟨#[48]⟩ : ByteArray).size = 1 by rfl]; omega)).mono ?_
  rintro e w' ⟨rfl, h⟩
  refine ⟨?_, New.of_below h⟩
  rw [show (⟨#[48]⟩ : ByteArray).data.toList = [48] by rfl, repeatL_rep]
  rfl
theorem elemStrs : Elem Tryz.prog 75 9 (.string ⟨#[]⟩) 16 := Elem.mk' Tryz.underlying75 (by kernel_rfl) rfl

/-- The parts of a text, the last first. -/
def joinR (ps : List (List UInt8)) : List UInt8 := ps.reverse.flatten
theorem joinR_snoc (ps : List (List UInt8)) (p : List UInt8) : joinR (ps ++ [p]) = p ++ joinR ps := by simp [joinR]
def StrI (T : List UInt8) (V : Nat) (ps : List (List UInt8)) : Prop := (if V = 0 then joinR ps else decDigits V ++ joinR ps) = T
theorem str_more {T : List UInt8} {V : Nat} {ps : List (List UInt8)} (h : StrI T V ps) (hq : 0 < V / 1000000000) : StrI T (V / 1000000000) (ps ++ [Txt.pad 9 (V % 1000000000)]) := by
  unfold StrI at h ⊢
  rw [if_neg (by omega)] at h ⊢
  have e := Txt.dec_pad 9 (V / 1000000000) (V % 1000000000) (Nat.mod_lt _ (by omega)) hq
  rw [show V / 1000000000 * 10 ^ 9 + V % 1000000000 = V by omega] at e
  rw [← h, e, joinR_snoc, List.append_assoc]
theorem str_last {T : List UInt8} {V : Nat} {ps : List (List UInt8)} (h : StrI T V ps) (h0 : V ≠ 0) (hq : V / 1000000000 = 0) : StrI T 0 (ps ++ [decDigits (V % 1000000000)]) := by
  unfold StrI at h ⊢
  rw [if_neg h0] at h
  rw [if_pos rfl, joinR_snoc, Nat.mod_eq_of_lt (by omega), h]
theorem pad9 {d : Nat} (hd : d < 1000000000) : List.replicate (9 - (decDigits d).length) 48 ++ decDigits d = Txt.pad 9 d := (Txt.pad_dec 9 d (by omega) (by omega)).symm
def strs (ps : List (List UInt8)) : List Value := ps.map (fun p => Value.string (St p))
theorem strs_one (ps : List (List UInt8)) : ∀ u ∈ strs ps, u.oneCell' = true := by
  intro u hu
  obtain ⟨_, _, rfl⟩ := List.mem_map.1 hu
  rfl
theorem StrI.len {T : List UInt8} {V : Nat} {ps : List (List UInt8)} (h : StrI T V ps) (hl : ps.length ≤ (joinR ps).length) : ps.length ≤ T.length := by
  unfold StrI at h
  rw [← h]
  split
  · exact hl
  · rw [List.length_append]; omega
theorem dec_words {Z n : Nat} (h : Z < 4294967296 ^ n) (hn : 1 ≤ n) : (decDigits Z).length ≤ 10 * n := by
  refine Txt.dec_len_le (by omega) (Nat.lt_of_lt_of_le h ?_)
  rw [Nat.pow_mul]
  exact Nat.pow_le_pow_left (by decide) n
/-- What the first loop of String holds. -/
def S1 (w : World) (T : List UInt8) (R : Option Addr) (m d : Nat) (PA : Option Addr) (k pc V : Nat) (ps : List (List UInt8)) (wr : World) : Prop :=
  WM wr R m d V ∧ StrI T V ps ∧ ps.length = k ∧ k ≤ (joinR ps).length ∧ wr.ownsRow w.heap.size 9 1 (.slice PA k pc) k (strs ps) ∧ New w wr
theorem chg_below {B : Nat} {w w' : World} (h : Below B w w') : Chg (fun j => B ≤ j) w w' := ⟨h.os, h.tape, h.output, h.size, fun k _ hn => h.block k (by omega)⟩
/-- What the second loop of String holds. -/
def S2 (wo : World) (gb : Nat) (sgn : List UInt8) (ps : List (List UInt8)) (k : Nat) (wr : World) : Prop :=
  Lib.IsBuilder 83 5 gb gb (Lib.byteCells (sgn ++ (ps.drop k).reverse.flatten)) wr ∧ Chg (fun j => gb ≤ j) wo wr
theorem flat_step {ps : List (List UInt8)} {k : Nat} {p : List UInt8} (h : ps[k]? = some p) : (ps.drop k).reverse.flatten = (ps.drop (k + 1)).reverse.flatten ++ p := by
  obtain ⟨hk, hp⟩ := List.getElem?_eq_some_iff.1 h
  rw [List.drop_eq_getElem_cons hk, hp]
  simp
theorem flat_le (ps : List (List UInt8)) (k : Nat) : (ps.drop k).reverse.flatten.length ≤ (joinR ps).length := by
  unfold joinR
  rw [← List.take_append_drop k ps, List.reverse_append, List.flatten_append, List.length_append]
  simp
theorem strCells_St (p : List UInt8) : Lib.strCells (St p) = Lib.byteCells p := by
  unfold Lib.strCells Lib.byteCells
  rw [St_dat]
theorem strs_at {ps : List (List UInt8)} {k : Nat} {u : Value} (h : (strs ps)[k]? = some u) : ∃ p, ps[k]? = some p ∧ u = .string (St p) := by
  simp only [strs, List.getElem?_map, Option.map_eq_some_iff] at h
  obtain ⟨c, h1, h2⟩ := h
  exact ⟨c, h1, h2.symm⟩
theorem S1.next {w2 wo w3 w6 w7 : World} {T : List UInt8} {R : Option Addr} {m d : Nat} {PA : Option Addr} {k pc V : Nat} {ps : List (List UInt8)} {g3 T1 m1 V1 c7 : Nat} {A7 : Option Addr} {p : List UInt8} {o : Obj} (h : S1 w2 T R m d PA k pc V ps wo) (hg : wo.heap.size ≤ g3) (hn3 : New wo w3) (hwm : WM w3 (some ⟨g3, 0, none⟩) T1 m1 V1) (hn6 : New w3 w6)
    (hown : w7.ownsRow w2.heap.size 9 1 (.slice A7 (k + 1) c7) (k + 1) (strs ps ++ strs [p])) (hgr : (w6.alloc o).grownBy w7 (blk PA)) (hst : StrI T V1 (ps ++ [p])) (hp : 1 ≤ p.length) : S1 w2 T (some ⟨g3, 0, none⟩) T1 m1 A7 (k + 1) c7 V1 (ps ++ [p]) w7 := by
  obtain ⟨h1, h2, h3, h4, h5, h6⟩ := h
  have hch : Chg (fun j => blk PA = some j) w6 w7 := ((Chg.refl _ w6).alloc o).grown hgr (fun j hj _ => hj)
  refine ⟨(hwm.new hn6).chg hch (fun j hj e => ?_), hst, by simp [h3], by rw [joinR_snoc, List.length_append]; omega, by rw [show strs (ps ++ [p]) = strs ps ++ strs [p] by simp [strs]]; exact hown, ?_⟩
  · have := (own_blk_le h5 e).2
    simp [blk] at hj
    omega
  · exact ((h6.new hn3).new hn6).trans hch (fun j hj e => by have := (own_blk_le h5 e).1; omega)
theorem rd_str {w : World} {b : ByteArray} {l : List UInt8} {e : TypeId} {g : Nat} (hg : g = w.heap.size) (hb : b = St l) : Rd (w.alloc (.cells #[.string b] e)) (some ⟨g, 0, none⟩) 1 (strs [l]) := by
  subst hg hb; exact Rd.lit (strs [l]) rfl

set_option maxHeartbeats 4000000 in
set_option maxRecDepth 100000 in
theorem wstring_any (v : Value) (z : Int) (w : World) (hv : WI w v z) (hpt : PowTab w) (hz : z.natAbs < 2 ^ 900000) :
    Calls Tryz.prog 9 #[v] w fun e w' => e = .returned (.string (St (Txt.text z))) ∧ New w w' := by
  obtain ⟨s, A, n, c, rfl, hs, hm⟩ := hv
  have hn := bz_wlen hm hz
  clear hz
  obtain ⟨T, hT⟩ : ∃ T, Txt.text z = T := ⟨_, rfl⟩
  rw [hT]
  by_cases h0 : n = 0
  · subst h0
    have hz0 : z.natAbs = 0 := hm.pos.1 rfl
    obtain rfl : [48] = T := by
      rw [← hT]; unfold Txt.text; rw [if_neg (by omega), hz0, Txt.dec_small (by omega)]; rfl
    clear hm hT hz0 hs hpt
    go_enter Tryz.func9, Tryz.ntmps9
    go_wp2
    go_ret
    exact ⟨rfl, (Chg.refl _ w).alloc _⟩
  · have hn0 : ((n : Int) == 0) = false := by simp; omega
    obtain ⟨Z, hZ⟩ : ∃ Z, z.natAbs = Z := ⟨_, rfl⟩
    rw [hZ] at hm
    have hZ1 : Z ≠ 0 := fun h => h0 (hm.pos.2 h)
    obtain ⟨la, hr, hnc, hc, hN⟩ := hm
    have H0 := Lib.hid (And.intro hr (And.intro hN (And.intro hs (And.intro hT (And.intro hZ hpt)))))
    have hbW := fun (W : World) => Rd.new (w := w) (w' := W) hr
    clear hr hN hs hT hZ hpt hbW
    go_enter Tryz.func9, Tryz.ntmps9
    go_upto_region 3 with fail
    refine Code.new1 ?_
    intro W hb1 hnW hzW
    have hk1 := hb1.cell 1 (u := .slice A n c) rfl
    have HW := Lib.hid (And.intro hb1 hnW)
    clear hb1 hnW hzW
    go_wp2_with (first
      | (at_make; refine wpList_mk elemU32 rfl rfl _ _ rfl (n := n) rfl rfl (by omega) (by omega) (by omega) (by simp only [maxLen]; omega) ?_; intro w1 hown1 hg1 hz1; have HMK := Lib.hid (And.intro hown1 (And.intro hg1 hz1)); have hk2 := hg1.cell hk1 (fun h => h); clear hown1 hg1 hz1)
      | ((with_reducible refine wpList_cp elemU32 rfl (.tmp 17) (.tmp 19) rfl rfl HMK.out.1 rfl (Nat.le_refl _) ((H0.out.1.new HW.out.2).new HMK.out.2.1) (nv_one _) ?_); intro w2 hown2 hch2; have HCP := Lib.hid (And.intro hown2 hch2); clear hown2 hch2))
    have hnw2 : New w w2 := Chg.owned (HW.out.2.new HMK.out.2.1) HCP.out.2 (fun k e => by have := HW.out.2.size; omega)
    have hb2 : Blk w2 w.heap.size 29 #[.bool s, .slice A n c] := (HW.out.1.chg HMK.out.2.1 (fun h => h)).chg HCP.out.2 (by have := HW.out.1.lt; omega)
    have hZlt : Z < 4294967296 ^ n := H0.out.2.1.lt (by omega) (by have := H0.out.1.len; rw [nv_length] at this; omega)
    obtain ⟨TD, hTD⟩ : ∃ x, decDigits Z = x := ⟨_, rfl⟩
    have hTl : TD.length ≤ 9000000 := by rw [← hTD]; have := dec_words hZlt (by omega); omega
    have hS : S1 w2 TD (some ⟨W.heap.size, 0, none⟩) n n none 0 0 Z [] w2 := by
      refine ⟨⟨la, ?_, Nat.le_refl _, by omega, H0.out.2.1⟩, ?_, rfl, Nat.zero_le _, World.ownsRow_nil w2 w2.heap.size _ _, Chg.refl _ _⟩
      · have := Rd.of_own HCP.out.1
        rwa [List.drop_eq_nil_of_le (by simp), List.append_nil] at this
      · unfold StrI; rw [if_neg hZ1, hTD]; simp [joinR]
    obtain ⟨gr, hgr⟩ : ∃ x, W.heap.size = x := ⟨_, rfl⟩
    rw [hgr] at hS
    simp only [hgr]
    have H2 := Lib.hid (And.intro hS (And.intro hnw2 (And.intro hb2 hTD)))
    clear hnw2 hb2 hZlt hTD hS hgr HCP HMK hk1 hk2
    go_loopw [3, 4, 5, 6] (fun s3 s4 _ _ wr => ∃ (R : Option Addr) (m d : Nat) (PA : Option Addr) (k pc V : Nat) (ps : List (List UInt8)), s3 = .slice R m d ∧ s4 = .slice PA k pc ∧ m ≤ 900000 ∧ Hid (S1 w2 TD R m d PA k pc V ps wr)) (fun s3 s4 _ _ _ => match s3, s4 with | .slice _ m _, .slice _ k _ => if m = 0 then 0 else 9000001 - k | _, _ => 0)
    case atStart => exact ⟨_, n, n, none, 0, 0, Z, [], rfl, rfl, hn, H2.out.1⟩
    case round =>
      obtain ⟨R, m, d, PA, k, pc, V, ps, rfl, rfl, hm, HS⟩ := hrel
      obtain ⟨wo, rfl⟩ : ∃ wo : World, wo = wr := ⟨_, rfl⟩
      obtain ⟨hwm, hst, hpl, hpj, hown, hnw⟩ := HS.out
      have hkT : k ≤ 9000000 := by have := hst.len (by omega); omega
      by_cases hm0 : m = 0
      · subst hm0
        have hV0 : V = 0 := hwm.pos.1 rfl
        subst hV0
        obtain ⟨gb, hgb⟩ : ∃ x, wo.heap.size = x := ⟨_, rfl⟩
        have hbo := H2.out.2.2.1.chg hnw (fun h => h)
        have hk0 := ((Chg.refl (fun _ => False) wo).alloc (.cells #[.pointer none, .slice none 0 0] 83)).cell (hbo.cell 0 (u := .bool s) rfl) (fun h => h)
        have hjT : joinR ps = TD := by unfold StrI at hst; rw [if_pos rfl] at hst; exact hst
        have hrd : Rd wo PA k (strs ps) := Rd.of_own hown
        have hblk : ∀ j, blk PA = some j → j < gb := fun j hj => by have := (own_blk_le hown hj).2; omega
        have hneww : New w wo := H2.out.2.1.new hnw
        have hlen : ∀ j, (ps.drop j).reverse.flatten.length ≤ 9000000 := fun j => Nat.le_trans (flat_le ps j) (by rw [hjT]; exact hTl)
        have HP := Lib.hid (And.intro hjT (And.intro hrd (And.intro hblk (And.intro hneww (And.intro hlen (And.intro hpl hgb))))))
        clear hwm hst hpj hown hnw HS hbo hjT hrd hblk hneww hlen hpl
        have fin : ∀ (sgn : List UInt8), sgn.length ≤ 1 → sgn ++ TD = T → ∀ (wr : World), S2 wo gb sgn ps 0 wr → Calls Tryz.prog 41 #[.pointer (some ⟨gb, 0, none⟩)] wr fun e w' => e = .returned (.string (St T)) ∧ Hid (New w w') := fun sgn _ hT wr h => by
          obtain ⟨h1, h2⟩ := h
          obtain ⟨hjT, hrd, hblk, hneww, hlen, hpl, hgb⟩ := HP.out
          rw [List.drop_zero, show ps.reverse.flatten = joinR ps by rfl, hjT, hT] at h1
          refine (Tryz.Builder_String_any gb gb T wr h1 (by have := h2.size; omega)).mono ?_
          rintro e w' ⟨rfl, hb⟩
          exact ⟨rfl, hneww.trans (h2.trans (chg_below hb) (fun _ _ h => h)) (fun j hj e => by have := hneww.size; omega)⟩
        have stp : ∀ (sgn : List UInt8), sgn.length ≤ 1 → ∀ (i : Nat) (p : List UInt8) (wr : World), ps[i]? = some p → S2 wo gb sgn ps (i + 1) wr → Calls Tryz.prog 40 #[.pointer (some ⟨gb, 0, none⟩), .string (St p)] wr fun e w' => (∃ v, e = .returned v) ∧ Hid (S2 wo gb sgn ps i w') := fun sgn hs1 i p wr hp h => by
          obtain ⟨h1, h2⟩ := h
          obtain ⟨hjT, hrd, hblk, hneww, hlen, hpl, hgb⟩ := HP.out
          have hl := hlen i
          rw [flat_step hp, List.length_append] at hl
          refine (Tryz.Builder_WriteString gb gb _ (St p) wr h1 (by simp only [Lib.byteCells, List.length_map, List.length_append, St_size]; omega) (by have := h2.size; omega)).mono ?_
          rintro e w' ⟨rfl, hb, hbel⟩
          refine ⟨⟨_, rfl⟩, ?_, h2.trans (chg_below hbel) (fun _ _ h => h)⟩
          rw [strCells_St, ← Lib.byteCells_append, List.append_assoc, ← flat_step hp] at hb
          exact .inr hb
        have HF := Lib.hid (And.intro fin stp)
        clear fin stp
        obtain ⟨hr, hN, hs, hT, hZ, hpt⟩ := H0.out
        have hTD := H2.out.2.2.2
        have hstart : Lib.IsBuilder 83 5 gb gb [] (wo.alloc (.cells #[.pointer none, .slice none 0 0] 83)) := by rw [← hgb]; exact Lib.fresh_isBuilder _ _ _
        cases s
        · have hsgn : [] ++ TD = T := by
            rw [← hT, ← hTD, ← hZ]; unfold Txt.text; rw [if_neg (by simpa using hs.symm)]; rfl
          have HS := Lib.hid (And.intro hsgn hstart)
          clear hr hN hs hT hZ hpt hTD hsgn hstart
          have HST : Hid (S2 wo gb [] ps k (wo.alloc (.cells #[.pointer none, .slice none 0 0] 83))) := by
            refine ⟨?_, (Chg.refl _ wo).alloc _⟩
            rw [List.drop_eq_nil_of_le (by have := HP.out.2.2.2.2.2.1; omega)]
            exact HS.out.2
          go_wp2_with fail
          clear hk0
          go_loopw [8] (fun i wr => ∃ j : Nat, i = .int .i64 ((j : Int) - 1) ∧ j ≤ k ∧ Hid (S2 wo gb [] ps j wr)) (fun i _ => (intOf i + 1).toNat)
          case atStart => exact ⟨k, rfl, Nat.le_refl _, HST⟩
          case round =>
            obtain ⟨j, rfl, hjk, HI⟩ := hrel
            obtain ⟨wq, rfl⟩ : ∃ wq : World, wq = wr := ⟨_, rfl⟩
            by_cases hj0 : j = 0
            · subst hj0
              rw [show (((0 : Nat) : Int) - 1) = -1 by rfl]
              go_wp2_with fail
              refine (HF.out.1 [] (by simp) HS.out.1 wq HI.out).mono ?_
              rintro e w9 ⟨rfl, H9⟩
              go_wp2
              go_ret
              exact ⟨rfl, H9.out⟩
            · obtain ⟨i, rfl⟩ : ∃ i, j = i + 1 := ⟨j - 1, by omega⟩
              rw [show (((i + 1 : Nat) : Int) - 1) = (i : Int) by omega]
              obtain ⟨hjT, hrd, hblk, hneww, hlen, hpl, hgb'⟩ := HP.out
              obtain ⟨ad, u, rfl, hu, hcu⟩ := (hrd.chg HI.out.2 (fun q hq _ e => by have := hblk q hq; omega)).at_ (show i < k by omega)
              obtain ⟨pp, hpp, rfl⟩ := strs_at hu
              have hst := HF.out.2 [] (by simp) i pp wq hpp HI.out
              have HST2 := Lib.hid hst
              clear hjT hrd hblk hneww hlen hpl hgb' hu hpp hst hj0
              go_wp2_with fail
              refine HST2.out.mono ?_
              rintro e w9 ⟨⟨ve, rfl⟩, H9⟩
              go_wp2
              go_roundw
              case rel => exact ⟨i, rfl, by omega, H9⟩
              case measure => simp [intOf]
        · have hsgn : [45] ++ TD = T := by
            rw [← hT, ← hTD, ← hZ]; unfold Txt.text; rw [if_pos (by simpa using hs.symm)]; rfl
          have HS := Lib.hid (And.intro hsgn hstart)
          clear hr hN hs hT hZ hpt hTD hsgn hstart
          go_wp2_with fail
          refine (Tryz.Builder_WriteByte gb gb [] 45 _ HS.out.2 (by simp) (by have := hgb; simp; omega)).mono ?_
          rintro e w8 ⟨rfl, hb8, hbel8⟩
          have HST : Hid (S2 wo gb [45] ps k w8) := by
            refine ⟨.inr ?_, ((Chg.refl _ wo).alloc _).trans (chg_below hbel8) (fun _ _ h => h)⟩
            rw [List.drop_eq_nil_of_le (by have := HP.out.2.2.2.2.2.1; omega)]
            exact hb8
          clear hb8 hbel8
          go_wp2_with fail
          clear hk0
          go_loopw [8] (fun i wr => ∃ j : Nat, i = .int .i64 ((j : Int) - 1) ∧ j ≤ k ∧ Hid (S2 wo gb [45] ps j wr)) (fun i _ => (intOf i + 1).toNat)
          case atStart => exact ⟨k, rfl, Nat.le_refl _, HST⟩
          case round =>
            obtain ⟨j, rfl, hjk, HI⟩ := hrel
            obtain ⟨wq, rfl⟩ : ∃ wq : World, wq = wr := ⟨_, rfl⟩
            by_cases hj0 : j = 0
            · subst hj0
              rw [show (((0 : Nat) : Int) - 1) = -1 by rfl]
              go_wp2_with fail
              refine (HF.out.1 [45] (by simp) HS.out.1 wq HI.out).mono ?_
              rintro e w9 ⟨rfl, H9⟩
              go_wp2
              go_ret
              exact ⟨rfl, H9.out⟩
            · obtain ⟨i, rfl⟩ : ∃ i, j = i + 1 := ⟨j - 1, by omega⟩
              rw [show (((i + 1 : Nat) : Int) - 1) = (i : Int) by omega]
              obtain ⟨hjT, hrd, hblk, hneww, hlen, hpl, hgb'⟩ := HP.out
              obtain ⟨ad, u, rfl, hu, hcu⟩ := (hrd.chg HI.out.2 (fun q hq _ e => by have := hblk q hq; omega)).at_ (show i < k by omega)
              obtain ⟨pp, hpp, rfl⟩ := strs_at hu
              have hst := HF.out.2 [45] (by simp) i pp wq hpp HI.out
              have HST2 := Lib.hid hst
              clear hjT hrd hblk hneww hlen hpl hgb' hu hpp hst hj0
              go_wp2_with fail
              refine HST2.out.mono ?_
              rintro e w9 ⟨⟨ve, rfl⟩, H9⟩
              go_wp2
              go_roundw
              case rel => exact ⟨i, rfl, by omega, H9⟩
              case measure => simp [intOf]
      · have hmp : (0 : Int) < (m : Int) := by omega
        have hmp' : 0 < m := by omega
        have hV0 : V ≠ 0 := fun h => hm0 (hwm.pos.2 h)
        have hdw := divWord_any R m d V 1000000000 wo hwm (by omega) (by omega) (by omega)
        obtain ⟨lo, hlo⟩ : ∃ x, V % 1000000000 = x := ⟨_, rfl⟩
        obtain ⟨hi, hhi⟩ : ∃ x, V / 1000000000 = x := ⟨_, rfl⟩
        rw [hlo, hhi] at hdw
        have hlob : lo < 1000000000 := by omega
        have hll := Txt.dec_len_le (u := lo) (k := 9) (by omega) (by omega)
        obtain ⟨tx, htx⟩ : ∃ x, St (decDigits lo) = x := ⟨_, rfl⟩
        have htxs : tx.size = (decDigits lo).length := by rw [← htx, St_size]
        have htx9 : tx.size ≤ 9 := by omega
        have hit := fun W h => itoa_any lo hlob W h
        rw [htx] at hit
        have HD := Lib.hid (And.intro hdw (And.intro hit (And.intro htx (And.intro htxs (And.intro hlo hhi)))))
        have HX := Lib.hid (And.intro hwm (And.intro hst (And.intro hpl (And.intro hpj (And.intro hown hnw)))))
        clear hdw hit htx htxs hlo hhi hwm hst hpl hpj hown hnw hll
        go_wp2_with fail
        refine HD.out.1.mono ?_
        rintro e w3 ⟨l3, g3, rfl, H3⟩
        go_wp2_with fail
        refine (trim_wm _ _ _ l3 w3 H3.out.1 H3.out.2.1 (Nat.le_refl _) (by omega)).mono ?_
        rintro e w4 ⟨T1, rfl, HT1, rfl⟩
        go_wp2_with fail
        refine (HD.out.2.1 w3 (((H0.out.2.2.2.2.2.new H2.out.2.1).new HX.out.2.2.2.2.2).new H3.out.2.2.2.2)).mono ?_
        rintro e w5 ⟨rfl, hn5⟩
        have HN5 := Lib.hid hn5
        have hT1 := HT1.out.1.pos
        rw [H3.out.2.2.1] at hT1
        clear hn5
        by_cases hq : hi = 0
        · obtain rfl : T1 = 0 := hT1.2 hq
          have HQ := Lib.hid hq
          clear hT1 hq
          go_wp2_with (at_builtin; refine wpList_app elemStrs rfl _ _ rfl rfl (own_chg (own_chg (own_chg HX.out.2.2.2.2.1 H3.out.2.2.2.2 (fun _ _ h => h)) HN5.out (fun _ _ h => h)) ((Chg.refl (fun _ => False) w5).alloc (.cells #[.string tx] 9)) (fun _ _ h => h)) rfl (rd_str rfl HD.out.2.2.1.symm) (strs_one _) (by simp only [maxLen]; omega) (by omega) (by have := HX.out.2.2.2.2.2.size; have := H3.out.2.2.2.2.size; have := HN5.out.size; simp; omega) ?_; intro A7 c7 w7 hown7 hg7 hat7; have HA7 := Lib.hid (And.intro hown7 (And.intro hg7 hat7)); clear hown7 hg7 hat7)
          go_roundw
          case rel =>
            refine ⟨_, 0, m, A7, k + 1, c7, hi, ps ++ [decDigits lo], rfl, rfl, by omega, ?_⟩
            have hst := str_last HX.out.2.1 hV0 (by have := HD.out.2.2.2.2.2; have := HQ.out; omega)
            rw [HD.out.2.2.2.2.1, ← HQ.out] at hst
            have hwm3 := HT1.out.1
            rw [H3.out.2.2.1] at hwm3
            exact S1.next HS.out H3.out.2.2.2.1 H3.out.2.2.2.2 hwm3 HN5.out HA7.out.1 HA7.out.2.1 hst (Txt.dec_len_pos _)
          case measure =>
            show (if 0 = 0 then 0 else 9000001 - (k + 1)) < (if m = 0 then 0 else 9000001 - k)
            rw [if_pos rfl, if_neg (by omega)]
            omega
        · have hT1p : (0 : Int) < (T1 : Int) := by
            rcases Nat.eq_zero_or_pos T1 with h | h
            · exact absurd (hT1.1 h) hq
            · omega
          have hT1p' : 0 < T1 := by omega
          have HQ := Lib.hid hq
          clear hT1 hq
          obtain ⟨cn, hcn⟩ : ∃ x, 9 - tx.size = x := ⟨_, rfl⟩
          have hcni : (9 : Int) - ((tx.size : Nat) : Int) = (cn : Int) := by omega
          have hcnb : cn ≤ 9 := by omega
          go_wp2_with fail
          refine (repeat_any cn hcnb w5).mono ?_
          rintro e w6 ⟨rfl, hn6⟩
          obtain ⟨zs, hzs⟩ : ∃ x, St (List.replicate cn 48) = x := ⟨_, rfl⟩
          rw [hzs]
          have hzss : zs.size = cn := by rw [← hzs, St_size]; simp
          have hsz : ¬ 9223372036854775807 < zs.size + tx.size := by omega
          have hcat : zs ++ tx = St (Txt.pad 9 lo) := by
            rw [← hzs, ← HD.out.2.2.1, St_app, ← hcn, HD.out.2.2.2.1, pad9 hlob]
          have H6 := Lib.hid (And.intro hn6 hcat)
          clear hn6 hzs hcn hcat hzss
          go_wp2_with (at_builtin; refine wpList_app elemStrs rfl _ _ rfl rfl (own_chg (own_chg (own_chg (own_chg HX.out.2.2.2.2.1 H3.out.2.2.2.2 (fun _ _ h => h)) HN5.out (fun _ _ h => h)) H6.out.1 (fun _ _ h => h)) ((Chg.refl (fun _ => False) w6).alloc (.cells #[.string (zs ++ tx)] 9)) (fun _ _ h => h)) rfl (rd_str rfl H6.out.2) (strs_one _) (by simp only [maxLen]; omega) (by omega) (by have := HX.out.2.2.2.2.2.size; have := H3.out.2.2.2.2.size; have := HN5.out.size; have := H6.out.1.size; simp; omega) ?_; intro A7 c7 w7 hown7 hg7 hat7; have HA7 := Lib.hid (And.intro hown7 (And.intro hg7 hat7)); clear hown7 hg7 hat7)
          go_roundw
          case rel =>
            refine ⟨_, T1, m, A7, k + 1, c7, hi, ps ++ [Txt.pad 9 lo], rfl, rfl, by have := HT1.out.2; omega, ?_⟩
            have hst := str_more HX.out.2.1 (by have := HD.out.2.2.2.2.2; have := HQ.out; omega)
            rw [HD.out.2.2.2.2.1, HD.out.2.2.2.2.2] at hst
            have hwm3 := HT1.out.1
            rw [H3.out.2.2.1] at hwm3
            exact S1.next HS.out H3.out.2.2.2.1 H3.out.2.2.2.2 hwm3 (HN5.out.new H6.out.1) HA7.out.1 HA7.out.2.1 hst (by rw [Txt.pad_len]; omega)
          case measure =>
            show (if T1 = 0 then 0 else 9000001 - (k + 1)) < (if m = 0 then 0 else 9000001 - k)
            rw [if_neg (by omega), if_neg (by omega)]
            omega
end Go.Proofs.YtblcaeoeeepajaaGreatDoor

namespace Go.Pure

/-- The varint of a number. -/
def uvar (n : Nat) : List UInt8 := if h : n < 128 then [UInt8.ofNat n] else UInt8.ofNat (128 + n % 128) :: uvar (n / 128)
termination_by n
decreasing_by omega
theorem uvar_lt {n : Nat} (h : n < 128) : uvar n = [UInt8.ofNat n] := by rw [uvar, dif_pos h]
theorem uvar_ge {n : Nat} (h : 128 ≤ n) : uvar n = UInt8.ofNat (128 + n % 128) :: uvar (n / 128) := by rw [uvar, dif_neg (by omega)]

theorem uvar_pos (n : Nat) : 1 ≤ (uvar n).length := by
  rw [uvar]; split <;> simp
theorem uvar_len_pow (k : Nat) : ∀ n, n < 128 ^ (k + 1) → (uvar n).length ≤ k + 1 := by
  induction k with
  | zero => intro n h; rw [uvar_lt (by simpa using h)]; simp
  | succ k ih =>
    intro n h
    by_cases hn : n < 128
    · rw [uvar_lt hn]; simp
    · rw [uvar_ge (by omega), List.length_cons]
      have := ih (n / 128) (by rw [Nat.div_lt_iff_lt_mul (by omega)]; rw [Nat.pow_succ] at h; exact h)
      omega
theorem uvar_len {n : Nat} (h : n < 18446744073709551616) : (uvar n).length ≤ 10 := uvar_len_pow 9 n (Nat.lt_trans h (by decide))

theorem or128 : ∀ x : Fin 256, (x.val ||| 128) = 128 + x.val % 128 := by decide +kernel
theorem or_byte (m : Nat) : bits .or .u8 ((m : Int) % 256) 128 = ((UInt8.ofNat (128 + m % 128)).toNat : Int) := by
  have h : ((m : Int) % 256) = ((m % 256 : Nat) : Int) := by omega
  rw [h]
  have := u8_or_nat (m % 256) 128 (by omega) (by omega)
  rw [show ((128 : Nat) : Int) = 128 from rfl] at this
  rw [this]
  have h2 := or128 ⟨m % 256, by omega⟩
  simp only at h2
  rw [h2]
  simp
  omega
theorem ofNat_byte {m : Nat} (h : m < 128) : (m : Int) = ((UInt8.ofNat m).toNat : Int) := by simp; omega
/-- The zigzag form of a number. -/
def zig (n : Int) : Nat := if n < 0 then (2 * (-(n + 1)) + 1).toNat else (2 * n).toNat
theorem xor_ones (a : Nat) (h : a < 18446744073709551616) : a ^^^ 18446744073709551615 = 18446744073709551615 - a := by
  have h1 := BitVec.xor_allOnes (x := BitVec.ofNat 64 a)
  have h2 := congrArg BitVec.toNat h1
  simp only [BitVec.toNat_xor, BitVec.toNat_ofNat, BitVec.toNat_not, BitVec.toNat_allOnes] at h2
  rw [Nat.mod_eq_of_lt (by simpa using h)] at h2
  simpa using h2
theorem zig_eq (n : Int) (hlo : -9223372036854775808 ≤ n) (hhi : n ≤ 9223372036854775807) :
    bits .xor .u64 (IntKind.u64.wrap (IntKind.u64.wrap n * 2)) (IntKind.u64.wrap (n / 9223372036854775808)) = (zig n : Int) := by
  unfold zig
  rw [IntKind.wrap_u64, IntKind.wrap_u64, IntKind.wrap_u64]
  split
  · rename_i h
    have e1 : n % 18446744073709551616 * 2 % 18446744073709551616 = ((2 * n + 18446744073709551616).toNat : Int) := by omega
    have e2 : n / 9223372036854775808 % 18446744073709551616 = ((18446744073709551615 : Nat) : Int) := by omega
    rw [e1, e2, u64_xor_nat _ _ (by omega) (by omega), xor_ones _ (by omega)]
    omega
  · rename_i h
    have e1 : n % 18446744073709551616 * 2 % 18446744073709551616 = ((2 * n).toNat : Int) := by omega
    have e2 : n / 9223372036854775808 % 18446744073709551616 = ((0 : Nat) : Int) := by omega
    rw [e1, e2, u64_xor_nat _ _ (by omega) (by omega), Nat.xor_zero]
theorem zig_lt (n : Int) (hlo : -9223372036854775808 ≤ n) (hhi : n ≤ 9223372036854775807) : zig n < 18446744073709551616 := by
  unfold zig; split <;> omega

end Go.Pure

namespace Go.Proofs.YtblcaeoeeepajaaGreatDoor
set_option linter.unusedVariables false
open Go.RowKit Go.Mem Go.Pure

/-- Block g is a Writer whose bytes are l, in the block bo. -/
def WrV (w : World) (g : Nat) (bo : Option Nat) (l : List UInt8) : Prop :=
  ∃ A n c, Blk w g 35 #[.slice A n c] ∧ RowV w 5 IsU8 (.slice A n c) (bs l) ∧ blk A = bo
/-- The row of old holds bytes alone. -/
def OldB (w : World) (bo : Option Nat) : Prop := ∀ k, bo = some k → KindB w 5 IsU8 k
theorem WrV.old {w : World} {g : Nat} {bo : Option Nat} {l : List UInt8} (h : WrV w g bo l) : OldB w bo := by
  obtain ⟨A, n, c, h1, h2, h3⟩ := h
  exact fun k hk => h2.kind (by rw [← hk, ← h3]; rfl)
theorem WrV.blt {w : World} {g : Nat} {bo : Option Nat} {l : List UInt8} (h : WrV w g bo l) : (∀ k, bo = some k → k < w.heap.size) ∧ bo ≠ some g := by
  obtain ⟨A, n, c, h1, h2, h3⟩ := h
  refine ⟨fun k hk => h2.lt (by rw [← hk, ← h3]; rfl), fun e => h2.ne h1 (by decide) (by rw [← e, ← h3]; rfl)⟩
theorem WrV.len {w : World} {A : Option Addr} {n c : Nat} {l : List UInt8} (h : RowV w 5 IsU8 (.slice A n c) (bs l)) : n = l.length := by
  obtain ⟨A', c', hv, _⟩ := h.shape
  injection hv with _ hn _
  rw [hn, bs_length]

/-- What an append to a Writer's bytes, stored back, leaves. -/
theorem wrv_step {w wr wx w1 : World} {g M c' : Nat} {bo bo' : Option Nat} {A A' : Option Addr} {l' : List UInt8} {v : Value} (hchg : Chg (fun k => k = g ∨ bo = some k) w wr) (hx : New wr wx)
    (hat : bo' = bo ∨ ∃ k, bo' = some k ∧ w.heap.size ≤ k) (hbo : blk A = bo') (hold : OldB wr bo) (hgb : ∀ k, bo = some k → k < w.heap.size) (hgg : bo ≠ some g) (hg1 : wx.grownBy w1 (blk A)) (hat1 : blk A' = blk A ∨ blk A' = some wx.heap.size ∧ New wx w1)
    (hb1 : Blk w1 g 35 #[v]) (hown1 : RowV w1 5 IsU8 (.slice A' M c') (bs l')) :
    WrV (w1.setCell ⟨g, 0, none⟩ (.slice A' M c')) g (blk A') l' ∧ Chg (fun k => k = g ∨ bo = some k) w (w1.setCell ⟨g, 0, none⟩ (.slice A' M c')) ∧ (blk A' = bo ∨ ∃ k, blk A' = some k ∧ w.heap.size ≤ k) ∧ OldB (w1.setCell ⟨g, 0, none⟩ (.slice A' M c')) bo := by
  have hne : blk A' ≠ some g := hown1.ne hb1 (by decide)
  have hc1 : Chg (fun k => k = g ∨ bo = some k) w w1 := (hchg.new hx).grown hg1 (fun k hk hlt => by
    rw [hbo] at hk
    rcases hat with rfl | ⟨k', rfl, hk'⟩
    · exact .inr hk
    · cases hk; omega)
  have hset : Chg (fun k => k = g) w1 (w1.setCell ⟨g, 0, none⟩ (.slice A' M c')) := (Chg.refl (fun k => k = g) w1).setCell (p := ⟨g, 0, none⟩) (fun _ => rfl) _
  refine ⟨⟨A', M, c', ?_, ?_, rfl⟩, hc1.setCell (fun _ => .inl rfl) _, ?_, ?_⟩
  · exact hb1.set_ 0 _
  · exact hown1.chg (S := fun k => k = g) ((Chg.refl (fun k => k = g) w1).setCell (p := ⟨g, 0, none⟩) (fun _ => rfl) _) (fun k hk e => hne (by subst e; exact hk))
  · rcases hat1 with e | ⟨e, _⟩
    · rw [e, hbo]; exact hat
    · exact .inr ⟨_, e, Nat.le_trans hchg.size hx.size⟩
  · intro k hk
    have hkg : k ≠ g := fun e => hgg (by rw [hk, e])
    refine KindB.chg ?_ hset hkg
    rcases hat1 with e | ⟨e, hn⟩
    · by_cases hA : blk A = some k
      · exact hown1.kind (by rw [← hA, ← e]; rfl)
      · exact ((hold k hk).chg hx (fun h => h)).chg ((Chg.refl (fun j => blk A = some j) wx).grown hg1 (fun j hj _ => hj)) hA
    · exact ((hold k hk).chg hx (fun h => h)).chg hn (fun h => h)

set_option maxHeartbeats 1000000 in
set_option maxRecDepth 100000 in
theorem wvUint_any (g : Nat) (bo : Option Nat) (l : List UInt8) (n : Nat) (w : World) (hn : n < 18446744073709551616) (hw : WrV w g bo l) (hl : l.length ≤ 1000000000) :
    Calls Tryz.prog 34 #[.pointer (some ⟨g, 0, none⟩), .int .u64 n] w fun e w' => e = .returned (.tuple #[]) ∧
      ∃ bo', WrV w' g bo' (l ++ uvar n) ∧ Chg (fun k => k = g ∨ bo = some k) w w' ∧ (bo' = bo ∨ ∃ k, bo' = some k ∧ w.heap.size ≤ k) ∧ OldB w' bo := by
  have hu := uvar_len hn
  have HN := Lib.hid hn
  clear hn
  have HGB := Lib.hid hw.blt
  go_enter Tryz.func34, Tryz.ntmps34
  go_wp2
  go_loopw [1] (fun i wr => ∃ m : Nat, m ≤ n ∧ i = .int .u64 m ∧ ∃ (d : List UInt8) (bo' : Option Nat), uvar n = d ++ uvar m ∧ WrV wr g bo' (l ++ d) ∧ Chg (fun k => k = g ∨ bo = some k) w wr ∧ (bo' = bo ∨ ∃ k, bo' = some k ∧ w.heap.size ≤ k) ∧ OldB wr bo) (fun i _ => (intOf i).toNat)
  case atStart => exact ⟨n, Nat.le_refl _, rfl, [], bo, rfl, by simpa using hw, Chg.refl _ w, .inl rfl, hw.old⟩
  case round =>
    obtain ⟨m, hm, rfl, d, bo', hd, ⟨A, N, c, hb, hown, hbo⟩, hchg, hat, hold⟩ := hrel
    have hdl : d.length + 1 ≤ 10 := by
      have := uvar_pos m
      rw [hd, List.length_append] at hu
      omega
    have hNl : N = l.length + d.length := by have := WrV.len hown; simpa using this
    have hN2 : N + 1 ≤ 1000000010 := by omega
    have hN3 : (bs (l ++ d)).length + 1 ≤ 1000000010 := by rw [bs_length, List.length_append]; omega
    have HN2 := Lib.hid hNl
    have HD := Lib.hid hd
    clear hNl
    have HBO := Lib.hid hbo
    clear hd hbo
    by_cases hlt : 128 ≤ m
    · have hc0 := hb.cell 0 rfl
      have hf0 := hb.frozen 0
      have HB := Lib.hid hb
      have HO := Lib.hid hown
      have HNE := Lib.hid (hown.ne hb (by decide))
      clear hb hown
      go_wp2_with (at_builtin; refine wpList_appV elemBytes rfl ⟨0, rfl⟩ rfl _ _ rfl rfl (HO.out.new ((Chg.refl _ wr).alloc _)) rfl (src_rd Tryz.underlying33 Rd.one (by simp [Value.oneCell'])) (fun u hu => by obtain rfl := List.mem_singleton.1 hu; exact ⟨UInt8.ofNat (128 + m % 128), by rw [or_byte]; rfl⟩) (by omega) (by omega) ?_; intro A' c' N' w1 hN' hown1 hg1 hat1; have hb1 := (HB.out.alloc _).grown hg1 HNE.out; have hc1 := hb1.cell 0 rfl; have hf1 := hb1.frozen 0; have HB1 := Lib.hid hb1; have HO1 := Lib.hid hown1; clear hb1 hown1 hN')
      obtain ⟨hw2, hc2, ha2, ho2⟩ := wrv_step (l' := l ++ (d ++ [UInt8.ofNat (128 + m % 128)])) hchg ((Chg.refl _ wr).alloc _) hat HBO.out hold HGB.out.1 HGB.out.2 hg1 hat1 HB1.out (by have := HO1.out; rw [or_byte] at this; simpa [bs_append, bs, By] using this)
      go_roundw
      case rel => exact ⟨m / 128, by omega, by go_num, d ++ [UInt8.ofNat (128 + m % 128)], _, by rw [HD.out, uvar_ge hlt]; simp, hw2, hc2, ha2, ho2⟩
      case measure => simp [intOf]; omega
    · have hc0 := hb.cell 0 rfl
      have hf0 := hb.frozen 0
      have HB := Lib.hid hb
      have HO := Lib.hid hown
      have HNE := Lib.hid (hown.ne hb (by decide))
      clear hb hown
      go_wp2_with (at_builtin; refine wpList_appV elemBytes rfl ⟨0, rfl⟩ rfl _ _ rfl rfl (HO.out.new ((Chg.refl _ wr).alloc _)) rfl (src_rd Tryz.underlying33 Rd.one (by simp [Value.oneCell'])) (fun u hu => by obtain rfl := List.mem_singleton.1 hu; exact ⟨UInt8.ofNat m, by rw [ofNat_byte (show m < 128 by omega)]; rfl⟩) (by omega) (by omega) ?_; intro A' c' N' w1 hN' hown1 hg1 hat1; have hb1 := (HB.out.alloc _).grown hg1 HNE.out; have hc1 := hb1.cell 0 rfl; have hf1 := hb1.frozen 0; have HB1 := Lib.hid hb1; have HO1 := Lib.hid hown1; clear hb1 hown1 hN')
      obtain ⟨hw2, hc2, ha2, ho2⟩ := wrv_step (l' := l ++ (d ++ [UInt8.ofNat m])) hchg ((Chg.refl _ wr).alloc _) hat HBO.out hold HGB.out.1 HGB.out.2 hg1 hat1 HB1.out (by have := HO1.out; rw [ofNat_byte (show m < 128 by omega)] at this; rw [bs_append, bs_append, ← List.append_assoc, ← bs_append]; exact this)
      go_end0
      exact ⟨rfl, _, by rw [HD.out, uvar_lt (by omega)]; exact hw2, hc2, ha2, ho2⟩

set_option maxHeartbeats 1000000 in
set_option maxRecDepth 100000 in
theorem wvText_any (g : Nat) (bo : Option Nat) (l : List UInt8) (s : ByteArray) (w : World) (hs : s.size ≤ 1000000) (hw : WrV w g bo l) (hl : l.length ≤ 900000000) :
    Calls Tryz.prog 8 #[.pointer (some ⟨g, 0, none⟩), .string s] w fun e w' => e = .returned (.tuple #[]) ∧
      ∃ bo', WrV w' g bo' (l ++ (uvar s.size ++ s.data.toList)) ∧ Chg (fun k => k = g ∨ bo = some k) w w' ∧ (bo' = bo ∨ ∃ k, bo' = some k ∧ w.heap.size ≤ k) ∧ OldB w' bo := by
  obtain ⟨n, hn⟩ : ∃ n, s.size = n := ⟨_, rfl⟩
  have hsl : s.data.toList.length = n := by rw [Array.length_toList]; exact hn
  have hn2 : n ≤ 1000000 := by omega
  have HSL := Lib.hid hsl
  have HGB := Lib.hid hw.blt
  have HN := Lib.hid hn
  clear hs hsl
  go_enter Tryz.func8, Tryz.ntmps8
  rw [hn]
  go_wp2_with fail
  refine (wvUint_any g bo l n w (by omega) hw (by omega)).mono ?_
  rintro e w1 ⟨rfl, bo1, hw1, hc1, ha1, ho1⟩
  have hu := uvar_len (n := n) (by omega)
  obtain ⟨A1, N, c1, hb1, hown1, hbo1⟩ := hw1
  have hN : N ≤ 900000010 := by have := WrV.len hown1; simp at this; omega
  have HBO := Lib.hid hbo1
  have HNE := Lib.hid (hown1.ne hb1 (by decide))
  have HB := Lib.hid hb1
  have HO := Lib.hid hown1
  have hN3 : (bs (l ++ uvar n)).length ≤ 900000010 := by rw [bs_length, List.length_append]; omega
  have hcc := hb1.cell 0 rfl
  have hff := hb1.frozen 0
  clear hbo1 hb1 hown1 hn
  go_wp2_with (at_builtin; refine wpList_appV elemBytes rfl ⟨0, rfl⟩ rfl _ _ rfl rfl HO.out rfl (src_str Tryz.underlying9 s) (bs_u8 _) (by rw [HSL.out]; omega) (by rw [HSL.out]; omega) ?_; intro A' c' N' w2 hN' hown2 hg2 hat2; have hb2 := HB.out.grown hg2 HNE.out; have hcc2 := hb2.cell 0 rfl; have hff2 := hb2.frozen 0; have HB2 := Lib.hid hb2; have HO2 := Lib.hid hown2; clear hb2 hown2 hN')
  obtain ⟨hw3, hc3, ha3, ho3⟩ := wrv_step (l' := l ++ (uvar n ++ s.data.toList)) hc1 (Chg.refl _ w1) ha1 HBO.out ho1 HGB.out.1 HGB.out.2 hg2 hat2 HB2.out (by have := HO2.out; rw [← List.append_assoc, bs_append]; exact this)
  go_end0
  exact ⟨rfl, _, hw3, hc3, ha3, ho3⟩

set_option maxHeartbeats 1000000 in
set_option maxRecDepth 100000 in
theorem wvDone_any (g : Nat) (bo : Option Nat) (l : List UInt8) (w : World) (hw : WrV w g bo l) (hl : l.length ≤ 1000000000) :
    Calls Tryz.prog 10 #[.pointer (some ⟨g, 0, none⟩)] w fun e w' => ∃ A c, e = .returned (.slice A l.length c) ∧
      w'.ownsRow w.heap.size 5 1 (.slice A l.length c) l.length (bs l) ∧ New w w' := by
  obtain ⟨A, N, c, hb, hown, hbo⟩ := hw
  have hN : l.length = N := by have := WrV.len hown; omega
  have HN := Lib.hid hN
  have hN2 : N ≤ 1000000000 := by omega
  have hcc := hb.cell 0 rfl
  have hff := hb.frozen 0
  have hgl := hb.lt
  have hrd : Rd w A N (bs l) := hown.rd
  clear hN hbo hown hb
  have HR := Lib.hid hrd
  clear hrd
  go_enter Tryz.func10, Tryz.ntmps10
  go_wp2_with (at_builtin; refine wpList_app elemBytes rfl _ _ rfl rfl (World.ownsRow_made w _ 0 (Nat.le_refl _) (Nat.zero_le _) rfl) rfl (HR.out.new ((Chg.refl _ w).alloc _)) (bs_one _) (by simp only [maxLen]; omega) (by omega) (by simp) ?_; intro A' c' w2 hown2 hg2 hat2)
  go_ret
  rw [HN.out]
  refine ⟨A', c', by simp, by simpa using hown2, ?_⟩
  exact ((Chg.refl _ w).alloc _).grown hg2 (fun k hk hlt => by simp [blk] at hk; omega)

end Go.Proofs.YtblcaeoeeepajaaGreatDoor

namespace Go.Proofs.YtblcaeoeeepajaaGreatDoor
set_option linter.unusedVariables false
open Go.RowKit Go.Mem Go.Dk Go.Pure Go.Dig

/-- The block k holds no number of package wide. -/
def No32 (w : World) (k : Nat) : Prop := (∃ t cs, Blk w k t cs ∧ ∀ z, Value.int .u32 z ∉ cs.toList) ∨ ∃ es clock, w.heap[k]? = some (.map es clock)
theorem rd_map_apart {w : World} {A : Option Addr} {n k : Nat} {xs : List Value} {es : Array MapEntry} {clock : Nat} (h : Rd w A n xs) (hb : w.heap[k]? = some (.map es clock)) (hn : 0 < n) : blk A ≠ some k := by
  obtain ⟨ad, u, rfl, hu, hc⟩ := h.at_ hn
  intro e
  have e : ad.block = k := by simpa [blk] using e
  unfold World.cell? at hc
  rw [block_add, e] at hc
  rw [hb] at hc
  cases hc
section
variable {w w1 w2 w' wl : World} {U U' U'' : Nat → Prop} {v : Value} {z : Int} {g : Nat} {s : S}
theorem WI.keep (h : WI w v z) (hc : Chg U w w') (hn : ∀ k, U k → No32 w k) : WI w' v z := by
  obtain ⟨s, A, n, c, h1, h2, l, h3, h4⟩ := h
  refine ⟨s, A, n, c, h1, h2, l, ?_, h4⟩
  rcases Nat.eq_zero_or_pos n with h0 | h0
  · subst h0; exact ⟨h3.1, fun h => absurd h (by omega)⟩
  · refine h3.chg hc (fun k hk _ hu => ?_)
    rcases hn k hu with ⟨t, cs, hb, hi⟩ | ⟨es, clock, hb⟩
    · refine h3.apart hb (fun u hu => ?_) h0 hk
      obtain ⟨x, _, rfl⟩ := List.mem_map.1 hu
      exact hi _
    · exact rd_map_apart h3 hb h0 hk
theorem DI.no32 {m : Nat} {V : Nat → Value} (h : DI w g m V s) : ∀ k, ownD g m V k → No32 w k := fun k hk => by
  rcases hk with rfl | rfl | ⟨i, hi⟩
  · exact .inl ⟨_, _, h.core.blk, fun z hz => by simp [dCells] at hz⟩
  · obtain ⟨_, es, clock, h2, _⟩ := h.core.map
    exact .inr ⟨es, clock, h2⟩
  · obtain ⟨cs, hb, hc⟩ := (h.rows i).kind hi
    exact .inl ⟨_, _, hb, fun z hz => by
      obtain ⟨b, e⟩ := hc _ (by simpa using hz)
      cases e⟩
theorem WrV.no32 {bo : Option Nat} {l : List UInt8} (h : WrV w g bo l) : ∀ k, (k = g ∨ bo = some k) → No32 w k := fun k hk => by
  have ho := h.old
  obtain ⟨A, n, c, h1, h2, h3⟩ := h
  rcases hk with rfl | hk
  · exact .inl ⟨_, _, h1, fun z hz => by simp at hz⟩
  · obtain ⟨cs, hb, hc⟩ := ho k hk
    exact .inl ⟨_, _, hb, fun z hz => by
      obtain ⟨b, e⟩ := hc _ (by simpa using hz)
      cases e⟩
/-- The disk at g, made after w. U: its blocks. -/
def JD (U : Nat → Prop) (w : World) (g : Nat) (s : S) (wl : World) : Prop := ∃ m V, (New w wl ∧ DI wl g m V s ∧ ∀ k, ownD g m V k → w.heap.size ≤ k) ∧ U = ownD g m V
structure DStep (U U' : Nat → Prop) (w1 w2 : World) : Prop where
  chg : Chg U w1 w2
  own : ∀ k, U' k → U k ∨ w1.heap.size ≤ k
theorem DStep.trans (h1 : DStep U U' w1 w2) (h2 : DStep U' U'' w2 w') : DStep U U'' w1 w' :=
  ⟨h1.chg.trans h2.chg (fun k hk hu => by
    rcases h1.own k hu with h | h
    · exact h
    · omega), fun k hk => by
    rcases h2.own k hk with h | h
    · exact h1.own k h
    · exact .inr (Nat.le_trans h1.chg.size h)⟩
theorem DStep.of_new (hn : New w1 w2) : DStep U U w1 w2 := ⟨hn.mono (fun _ _ hf => hf.elim), fun k hk => .inl hk⟩
theorem JD.no32 (h : JD U w g s w1) : ∀ k, U k → No32 w1 k := by
  obtain ⟨m, V, ⟨h1, h2, h3⟩, rfl⟩ := h
  exact h2.no32
theorem JD.lt (h : JD U w g s w1) {k : Nat} (hk : U k) : k < w1.heap.size ∧ w.heap.size ≤ k := by
  obtain ⟨m, V, ⟨h1, h2, h3⟩, rfl⟩ := h
  exact ⟨h2.lt hk, h3 k hk⟩
theorem JD.was (h : JD U w g s w1) : New w w1 := by
  obtain ⟨m, V, ⟨h1, h2, h3⟩, rfl⟩ := h
  exact h1
theorem JD.wf (h : JD U w g s w1) : WF s := by
  obtain ⟨m, V, ⟨h1, h2, h3⟩, rfl⟩ := h
  exact h2.wf
theorem JD.new (h : JD U w g s w1) (hn : New w1 w2) : JD U w g s w2 := by
  obtain ⟨m, V, ⟨h1, h2, h3⟩, rfl⟩ := h
  exact ⟨m, V, ⟨h1.trans hn (fun _ _ h => h), h2.new hn, h3⟩, rfl⟩
/-- Blocks that are not its own change. -/
theorem JD.chg {Y : Nat → Prop} (h : JD U w g s w1) (hc : Chg Y w1 w2) (hw : ∀ k, Y k → w.heap.size ≤ k) (hY : ∀ k, U k → ¬ Y k) : JD U w g s w2 := by
  obtain ⟨m, V, ⟨h1, h2, h3⟩, rfl⟩ := h
  exact ⟨m, V, ⟨h1.trans hc (fun k hk hy => by have := hw k hy; omega), h2.chg hc hY, h3⟩, rfl⟩
theorem jd_did {m : Nat} {V V' : Nat → Value} {s' : S} (h : New w w1 ∧ DI w1 g m V s ∧ ∀ k, ownD g m V k → w.heap.size ≤ k) (h2 : DI w2 g m V' s') (hd : Did w1 w2 g m V V') : ∃ U', JD U' w g s' w2 ∧ DStep (ownD g m V) U' w1 w2 :=
  ⟨_, ⟨m, V', ⟨h.1.trans hd.chg (fun k hk ho => by have := h.2.2 k ho; omega), h2, fun k hk => by
    rcases hd.own k hk with e | e
    · exact h.2.2 k e
    · exact Nat.le_trans h.1.size e⟩, rfl⟩, hd.chg, hd.own⟩
theorem JD.append (h : JD U w g s w1) (file : Int) (B : Option Addr) (nb cb : Nat) (l : List UInt8) (hb : Rd w1 B nb (bs l)) (hnb : nb ≤ 1000000000) :
    Calls Tryz.prog 12 #[.pointer (some ⟨g, 0, none⟩), .int .i64 file, .slice B nb cb] w1 fun e w' => e = .returned (.int .i64 (Dk.append s file l).2) ∧ ∃ U', JD U' w g (Dk.append s file l).1 w' ∧ DStep U U' w1 w' := by
  obtain ⟨m, V, hz, rfl⟩ := h
  refine (dAppend_any g m V s w1 hz.2.1 file B nb cb l hb hnb).mono ?_
  rintro e w' ⟨rfl, V', h5, h6⟩
  exact ⟨rfl, jd_did hz h5 h6⟩
theorem JD.sync (h : JD U w g s w1) : Calls Tryz.prog 13 #[.pointer (some ⟨g, 0, none⟩)] w1 fun e w' => e = .returned (.int .i64 (Dk.sync s).2) ∧ ∃ U', JD U' w g (Dk.sync s).1 w' ∧ DStep U U' w1 w' := by
  obtain ⟨m, V, hz, rfl⟩ := h
  refine (dSync_any g m V s w1 hz.2.1).mono ?_
  rintro e w' ⟨rfl, h5, h6⟩
  exact ⟨rfl, jd_did hz h5 h6⟩
theorem JD.crash (h : JD U w g s w1) (K : Option Addr) (nk ck : Nat) (keep : List Int) (hK : Rd w1 K nk (is keep)) (hKo : ∀ k, blk K = some k → ¬ U k ∧ k < w1.heap.size) (hnk : nk ≤ 1000000000) (hkr : ∀ z ∈ keep, -9223372036854775808 ≤ z ∧ z ≤ 9223372036854775807) (flip : Int) (hfl : -9223372036854775808 ≤ flip ∧ flip ≤ 9223372036854775807) :
    Calls Tryz.prog 14 #[.pointer (some ⟨g, 0, none⟩), .slice K nk ck, .int .i64 flip] w1 fun e w' => e = .returned (.tuple #[]) ∧ ∃ U', JD U' w g (Dk.crash s keep flip) w' ∧ DStep U U' w1 w' := by
  obtain ⟨m, V, hz, rfl⟩ := h
  refine (dCrash_any g m V s w1 hz.2.1 K nk ck keep hK hKo hnk hkr flip hfl).mono ?_
  rintro e w' ⟨rfl, V', h7, h8⟩
  exact ⟨rfl, jd_did hz h7 h8⟩
theorem JD.arm (h : JD U w g s w1) (n : Int) (hn : -9223372036854775808 ≤ n ∧ n ≤ 9223372036854775807) : Calls Tryz.prog 27 #[.pointer (some ⟨g, 0, none⟩), .int .i64 n] w1 fun e w' => e = .returned (.tuple #[]) ∧ ∃ U', JD U' w g (Dk.arm s n) w' ∧ DStep U U' w1 w' := by
  obtain ⟨m, V, hz, rfl⟩ := h
  refine (dArm_any g m s n hn w1 hz.2.1.core.blk).mono ?_
  rintro e w' ⟨rfl, h5, h6⟩
  have hf : (Dk.arm s n).f = s.f ∧ (Dk.arm s n).firm = s.firm := by unfold Dk.arm; split <;> exact ⟨rfl, rfl⟩
  obtain ⟨h7, h8⟩ := hz.2.1.cells hf h5 h6 (hz.2.1.wf.arm hn.2)
  exact ⟨rfl, jd_did hz h7 h8⟩
theorem JD.read (h : JD U w g s w1) (file : Int) : Calls Tryz.prog 16 #[.pointer (some ⟨g, 0, none⟩), .int .i64 file] w1 fun e w' => ∃ A c, e = .returned (.tuple #[.slice A (Dk.read s file).1.length c, .int .i64 (Dk.read s file).2]) ∧ Rd w' A (Dk.read s file).1.length (bs (Dk.read s file).1) ∧ New w1 w' ∧ ∀ k, blk A = some k → w1.heap.size ≤ k ∧ k < w'.heap.size := by
  obtain ⟨m, V, hz, rfl⟩ := h
  refine (dRead_any g m V s w1 hz.2.1 file).mono ?_
  rintro e w' ⟨A, c, rfl, h5, h6⟩
  exact ⟨A, c, rfl, Rd.of_own h5, h6, fun k hk => own_blk_le h5 hk⟩
theorem JD.start (room : Int) (hr : 0 ≤ room ∧ room ≤ 16777216) (hn : New w w1) : Calls Tryz.prog 5 #[.int .i64 room] w1 fun e w' => ∃ g U, e = .returned (.tuple #[.pointer (some ⟨g, 0, none⟩), .int .i64 0]) ∧ JD U w g (Dk.new room.toNat) w' ∧ New w1 w' := by
  refine (dNew_any room hr w1).mono ?_
  rintro e w' ⟨g, m, rfl, h1, h2, h3, h4⟩
  have := hn.size
  exact ⟨g, _, rfl, ⟨m, _, ⟨hn.trans h2 (fun _ _ h => h), h1, fun k hk => by
    rcases hk with rfl | rfl | ⟨i, hi⟩
    · omega
    · omega
    · cases hi⟩, rfl⟩, h2⟩
theorem JD.copy (h : JD U w g s w1) : Calls Tryz.prog 56 #[.pointer (some ⟨g, 0, none⟩)] w1 fun e w' => ∃ g2 U2, e = .returned (.pointer (some ⟨g2, 0, none⟩)) ∧ JD U2 w g2 s w' ∧ New w1 w' ∧ ∀ k, U2 k → w1.heap.size ≤ k := by
  obtain ⟨m, V, hz, rfl⟩ := h
  refine (dCopy_any g m V s w1 hz.2.1).mono ?_
  rintro e w' ⟨g2, m2, V2, rfl, h1, h2, h3⟩
  exact ⟨g2, _, rfl, ⟨m2, V2, ⟨hz.1.trans h2 (fun _ _ h => h), h1, fun k hk => Nat.le_trans hz.1.size (h3 k hk)⟩, rfl⟩, h2, h3⟩
/-- Bytes that it does not touch. -/
theorem DStep.rd {A : Option Addr} {n : Nat} {xs : List Value} (h : DStep U U' w1 w2) (hr : Rd w1 A n xs) (ha : ∀ k, blk A = some k → ¬ U k ∧ k < w1.heap.size) : Rd w2 A n xs ∧ ∀ k, blk A = some k → ¬ U' k ∧ k < w2.heap.size :=
  ⟨hr.chg h.chg (fun k hk _ => (ha k hk).1), fun k hk => ⟨fun hu => by
    rcases h.own k hu with e | e
    · exact (ha k hk).1 e
    · have := (ha k hk).2; omega, Nat.lt_of_lt_of_le (ha k hk).2 h.chg.size⟩⟩
end
end Go.Proofs.YtblcaeoeeepajaaGreatDoor

namespace Go.Pure

/-- Reading a varint: i bytes have been read, with the value acc; an error (3: more, 2: form), or the value and the rest. -/
def scanU : Nat → Nat → List UInt8 → Except Int (Nat × List UInt8)
  | _, _, [] => .error 3
  | i, acc, c :: t =>
    if (i = 9 ∧ 1 < c.toNat) ∨ (0 < i ∧ c.toNat = 0) then .error 2
    else if c.toNat < 128 then .ok (acc + c.toNat * 128 ^ i, t)
    else scanU (i + 1) (acc + (c.toNat % 128) * 128 ^ i) t
def getU (l : List UInt8) : Except Int (Nat × List UInt8) := scanU 0 0 l

/-- Uint of a reader with the bytes l and the error e: the value, the bytes and the error behind it. -/
def uintR (l : List UInt8) (e : Int) : Nat × List UInt8 × Int :=
  if e = 0 then match getU l with
    | .ok (n, t) => (n, t, 0)
    | .error x => (0, l, x)
  else (0, l, e)

theorem scanU_nil (i acc : Nat) : scanU i acc [] = .error 3 := rfl
theorem scanU_bad {i acc : Nat} {c : UInt8} {t : List UInt8} (h : (i = 9 ∧ 1 < c.toNat) ∨ (0 < i ∧ c.toNat = 0)) : scanU i acc (c :: t) = .error 2 := by
  rw [scanU, if_pos h]
theorem scanU_end {i acc : Nat} {c : UInt8} {t : List UInt8} (h : ¬ ((i = 9 ∧ 1 < c.toNat) ∨ (0 < i ∧ c.toNat = 0))) (hc : c.toNat < 128) : scanU i acc (c :: t) = .ok (acc + c.toNat * 128 ^ i, t) := by
  rw [scanU, if_neg h, if_pos hc]
theorem scanU_on {i acc : Nat} {c : UInt8} {t : List UInt8} (h : ¬ ((i = 9 ∧ 1 < c.toNat) ∨ (0 < i ∧ c.toNat = 0))) (hc : ¬ c.toNat < 128) : scanU i acc (c :: t) = scanU (i + 1) (acc + (c.toNat % 128) * 128 ^ i) t := by
  rw [scanU, if_neg h, if_neg hc]
theorem pow7 (k : Nat) : 2 ^ (7 * k) = 128 ^ k := by rw [Nat.pow_mul]
theorem uint_val {k acc x : Nat} (hk : k ≤ 9) (hacc : acc < 128 ^ k) (hx : x < 256) (h9 : k = 9 → x ≤ 1) :
    bits .or .u64 (acc : Int) (IntKind.u64.wrap (IntKind.u64.wrap (bits .and .u8 (x : Int) 127) * 2 ^ (7 * k))) = ((acc + x % 128 * 128 ^ k : Nat) : Int) := by
  have h1 : bits .and .u8 (x : Int) 127 = ((x % 128 : Nat) : Int) := by
    have := u8_and_nat x 127 hx (by omega)
    rw [show ((127 : Nat) : Int) = 127 from rfl] at this
    rw [this, show (127 : Nat) = 2 ^ 7 - 1 from rfl, Nat.and_two_pow_sub_one_eq_mod]
  have hp : x % 128 * 128 ^ k < 18446744073709551616 := by
    rcases Nat.lt_or_ge k 9 with h | h
    · have h2 : 128 ^ k ≤ 128 ^ 8 := Nat.pow_le_pow_right (by omega) (by omega)
      have h3 : x % 128 * 128 ^ k ≤ 127 * 128 ^ 8 := Nat.mul_le_mul (by omega) h2
      have h4 : 127 * 128 ^ 8 < 18446744073709551616 := by decide
      exact Nat.lt_of_le_of_lt h3 h4
    · obtain rfl : k = 9 := by omega
      have := h9 rfl
      have h4 : x % 128 * 128 ^ 9 ≤ 1 * 128 ^ 9 := Nat.mul_le_mul (by omega) (Nat.le_refl _)
      have h5 : 1 * 128 ^ 9 < 18446744073709551616 := by decide
      exact Nat.lt_of_le_of_lt h4 h5
  have ha : acc < 18446744073709551616 := by
    have h2 : 128 ^ k ≤ 128 ^ 9 := Nat.pow_le_pow_right (by omega) hk
    have h5 : 128 ^ 9 < 18446744073709551616 := by decide
    exact Nat.lt_of_lt_of_le hacc (Nat.le_trans h2 (Nat.le_of_lt h5))
  rw [h1]
  have e1 : IntKind.u64.wrap ((x % 128 : Nat) : Int) = ((x % 128 : Nat) : Int) := by rw [IntKind.wrap_u64]; omega
  have e2 : ((x % 128 : Nat) : Int) * 2 ^ (7 * k) = ((x % 128 * 128 ^ k : Nat) : Int) := by
    rw [← pow7 k]; simp
  have e3 : IntKind.u64.wrap ((x % 128 * 128 ^ k : Nat) : Int) = ((x % 128 * 128 ^ k : Nat) : Int) := by rw [IntKind.wrap_u64]; omega
  rw [e1, e2, e3, u64_or_nat _ _ ha hp]
  have := Nat.shiftLeft_add_eq_or_of_lt (show acc < 2 ^ (7 * k) by rw [pow7]; exact hacc) (x % 128)
  rw [Nat.shiftLeft_eq, pow7] at this
  rw [Nat.or_comm, ← this, Nat.add_comm]
theorem uint_lt {k acc x : Nat} (hacc : acc < 128 ^ k) : acc + x % 128 * 128 ^ k < 128 ^ (k + 1) := by
  have : x % 128 * 128 ^ k ≤ 127 * 128 ^ k := Nat.mul_le_mul (by omega) (Nat.le_refl _)
  rw [Nat.pow_succ]
  omega

theorem uintR_err {l : List UInt8} {x : Int} (h : getU l = .error x) : uintR l 0 = (0, l, x) := by unfold uintR; rw [if_pos rfl, h]
theorem uintR_ok {l t : List UInt8} {n : Nat} (h : getU l = .ok (n, t)) : uintR l 0 = (n, t, 0) := by unfold uintR; rw [if_pos rfl, h]
theorem uintR_bad {l : List UInt8} {e : Int} (h : e ≠ 0) : uintR l e = (0, l, e) := by unfold uintR; rw [if_neg h]
theorem drop_cons {l : List UInt8} {k : Nat} {x : UInt8} (h : l[k]? = some x) : l.drop k = x :: l.drop (k + 1) := by
  obtain ⟨hk, rfl⟩ := List.getElem?_eq_some_iff.1 h
  exact List.drop_eq_getElem_cons hk
/-- A length that the bytes allow. -/
def lengthR (l : List UInt8) (e : Int) : Nat × List UInt8 × Int :=
  if (uintR l e).2.2 = 0 then
    if (uintR l e).2.1.length < (uintR l e).1 then (0, (uintR l e).2.1, 3) else ((uintR l e).1, (uintR l e).2.1, 0)
  else (0, (uintR l e).2.1, (uintR l e).2.2)
theorem lengthR_big {l t : List UInt8} {e : Int} {m : Nat} (h : uintR l e = (m, t, 0)) (hm : t.length < m) : lengthR l e = (0, t, 3) := by
  unfold lengthR; rw [h]; simp [hm]
theorem lengthR_ok {l t : List UInt8} {e : Int} {m : Nat} (h : uintR l e = (m, t, 0)) (hm : ¬ t.length < m) : lengthR l e = (m, t, 0) := by
  unfold lengthR; rw [h]; simp [hm]
theorem lengthR_err {l t : List UInt8} {e x : Int} {m : Nat} (h : uintR l e = (m, t, x)) (hx : x ≠ 0) : lengthR l e = (0, t, x) := by
  unfold lengthR; rw [h]; simp [hx]
/-- Raw of a reader. -/
def rawR (l : List UInt8) (e : Int) : List UInt8 × List UInt8 × Int :=
  ((lengthR l e).2.1.take (lengthR l e).1, (lengthR l e).2.1.drop (lengthR l e).1, (lengthR l e).2.2)
/-- The number with a zigzag form. -/
def unzig (z : Nat) : Int := if z % 2 = 1 then -((z / 2 : Nat) : Int) - 1 else ((z / 2 : Nat) : Int)
def intR (l : List UInt8) (e : Int) : Int × List UInt8 × Int := (unzig (uintR l e).1, (uintR l e).2.1, (uintR l e).2.2)
def endR (l : List UInt8) (e : Int) : Int := if e = 0 then (if l = [] then 0 else 2) else e

theorem scanU_lt : ∀ (l : List UInt8) (i acc : Nat), i ≤ 9 → acc < 128 ^ i → ∀ n t, scanU i acc l = .ok (n, t) → n < 18446744073709551616 := by
  intro l
  induction l with
  | nil => intro i acc _ _ n t h; cases h
  | cons c l ih =>
    intro i acc hi hacc n t h
    by_cases hb : (i = 9 ∧ 1 < c.toNat) ∨ (0 < i ∧ c.toNat = 0)
    · rw [scanU_bad hb] at h; cases h
    · by_cases hc : c.toNat < 128
      · rw [scanU_end hb hc] at h
        injection h with h
        injection h with h1 h2
        subst h1
        have hx := c.toNat_lt
        have := uint_val (x := c.toNat) hi hacc hx (fun h => by omega)
        have h2 := bits_hi_u64 .or (acc : Int) (IntKind.u64.wrap (IntKind.u64.wrap (bits .and .u8 (c.toNat : Int) 127) * 2 ^ (7 * i)))
        rw [this, Nat.mod_eq_of_lt hc] at h2
        omega
      · rw [scanU_on hb hc] at h
        exact ih (i + 1) _ (by omega) (uint_lt hacc) n t h
theorem uintR_lt (l : List UInt8) (e : Int) : (uintR l e).1 < 18446744073709551616 := by
  unfold uintR
  split
  · cases h : getU l with
    | error x => simp
    | ok p =>
      obtain ⟨n, t⟩ := p
      exact scanU_lt l 0 0 (by omega) (by simp) n t h
  · simp
theorem xor_ones64 (a : Nat) (h : a < 9223372036854775808) : bits .xor .i64 (a : Int) (-1) = -(a : Int) - 1 := by
  have hx : BitVec.ofInt 64 (a : Int) ^^^ BitVec.ofInt 64 (-1) = ~~~ (BitVec.ofNat 64 a) := by
    rw [show BitVec.ofInt 64 (-1) = BitVec.allOnes 64 by decide, BitVec.ofInt_natCast, BitVec.xor_allOnes]
  show IntKind.i64.wrap ((BitVec.ofInt 64 (a : Int) ^^^ BitVec.ofInt 64 (-1)).toNat : Int) = _
  rw [hx, BitVec.toNat_not, BitVec.toNat_ofNat, IntKind.wrap_i64]
  omega
theorem xor_zero64 (a : Nat) (h : a < 9223372036854775808) : bits .xor .i64 (a : Int) 0 = (a : Int) := by
  have hx : BitVec.ofInt 64 (a : Int) ^^^ BitVec.ofInt 64 0 = BitVec.ofNat 64 a := by
    rw [show BitVec.ofInt 64 0 = 0#64 by decide, BitVec.ofInt_natCast, BitVec.xor_zero]
  show IntKind.i64.wrap ((BitVec.ofInt 64 (a : Int) ^^^ BitVec.ofInt 64 0).toNat : Int) = _
  rw [hx, BitVec.toNat_ofNat, IntKind.wrap_i64]
  omega
theorem unzig_eq (m : Nat) (hm : m < 18446744073709551616) : bits .xor .i64 ((m : Int) / 2) (RowKit.wrap64 (-RowKit.wrap64 (bits .and .u64 (m : Int) 1))) = unzig m := by
  have h1 : bits .and .u64 (m : Int) 1 = ((m % 2 : Nat) : Int) := by
    have := u64_and_nat m 1 hm (by omega)
    rw [show ((1 : Nat) : Int) = 1 from rfl] at this
    rw [this, Nat.and_one_is_mod]
  rw [h1]
  have h2 : (m : Int) / 2 = ((m / 2 : Nat) : Int) := by omega
  rw [h2]
  unfold unzig RowKit.wrap64
  rcases Nat.mod_two_eq_zero_or_one m with h | h
  · rw [h, if_neg (by omega)]
    exact xor_zero64 _ (by omega)
  · rw [h, if_pos rfl]
    exact xor_ones64 _ (by omega)
theorem scanU_rest : ∀ (l : List UInt8) (i acc n : Nat) (t : List UInt8), scanU i acc l = .ok (n, t) → t.length ≤ l.length := by
  intro l
  induction l with
  | nil => intro i acc n t h; cases h
  | cons c l ih =>
    intro i acc n t h
    by_cases hb : (i = 9 ∧ 1 < c.toNat) ∨ (0 < i ∧ c.toNat = 0)
    · rw [scanU_bad hb] at h; cases h
    · by_cases hc : c.toNat < 128
      · rw [scanU_end hb hc] at h
        injection h with h
        injection h with _ h2
        subst h2
        simp
      · rw [scanU_on hb hc] at h
        have := ih _ _ _ _ h
        simp; omega
theorem uintR_rest (l : List UInt8) (e : Int) : (uintR l e).2.1.length ≤ l.length := by
  unfold uintR
  split
  · cases h : getU l with
    | error x => simp
    | ok p => obtain ⟨n, t⟩ := p; exact scanU_rest l 0 0 n t h
  · simp
theorem lengthR_rest (l : List UInt8) (e : Int) : (lengthR l e).2.1.length ≤ l.length := by
  have := uintR_rest l e
  unfold lengthR
  split
  · split <;> simpa using this
  · simpa using this
theorem lengthR_le (l : List UInt8) (e : Int) : (lengthR l e).1 ≤ (lengthR l e).2.1.length := by
  unfold lengthR
  split
  · split
    · simp
    · rename_i h; simp at h ⊢; omega
  · simp
theorem rawR_rest (l : List UInt8) (e : Int) : (rawR l e).1.length + (rawR l e).2.1.length ≤ l.length := by
  have h1 := lengthR_rest l e
  have h2 := lengthR_le l e
  unfold rawR
  simp
  omega
end Go.Pure

namespace Go.Proofs.YtblcaeoeeepajaaGreatDoor
open Go.RowKit Go.Mem Go.Pure

/-- Block g is a Reader with the bytes l (in the block bo) and the error e. -/
def RdrAt (w : World) (g : Nat) (bo : Option Nat) (l : List UInt8) (e : Int) : Prop :=
  ∃ A n c, Blk w g 95 #[.slice A n c, .int .i64 e] ∧ Rd w A n (bs l) ∧ n ≤ c ∧ c ≤ maxLen ∧ blk A = bo ∧ bo ≠ some g ∧ ∀ k, bo = some k → k < w.heap.size

set_option maxHeartbeats 1000000 in
set_option maxRecDepth 100000 in
theorem rFail_any (g : Nat) (bo : Option Nat) (l : List UInt8) (e0 x : Int) (w : World) (hw : RdrAt w g bo l e0) :
    Calls Tryz.prog 78 #[.pointer (some ⟨g, 0, none⟩), .int .i64 x] w fun e w' => e = .returned (.tuple #[]) ∧
      RdrAt w' g bo l (if e0 = 0 then x else e0) ∧ Chg (fun k => k = g) w w' := by
  obtain ⟨A, n, c, hb, hr, hnc, hcm, hbo, hne, hbk⟩ := hw
  have HBK := Lib.hid hbk
  clear hbk
  have hc0 := hb.cell 0 rfl
  have hc1 := hb.cell 1 rfl
  have hf1 := hb.frozen 1
  have HB := Lib.hid hb
  have HBO := Lib.hid hbo
  clear hb hbo
  by_cases h : e0 = 0
  · subst h
    go_enter Tryz.func78, Tryz.ntmps78
    go_wp2
    go_end0
    have hchg : Chg (fun k => k = g) w (w.setCell ⟨g, 1, none⟩ (.int .i64 x)) := (Chg.refl (fun k => k = g) w).setCell (p := ⟨g, 1, none⟩) (fun _ => rfl) _
    have hbk' : ∀ k, bo = some k → k < (w.setCell ⟨g, 1, none⟩ (.int .i64 x)).heap.size := fun k hk => Nat.lt_of_lt_of_le (HBK.out k hk) hchg.size
    exact ⟨rfl, ⟨A, n, c, HB.out.set_ 1 _, hr.chg hchg (fun k hk _ e => hne (by rw [← HBO.out, hk, e])), hnc, hcm, HBO.out, hne, hbk'⟩, hchg⟩
  · have h' : (e0 == 0) = false := by simpa using h
    have H := Lib.hid h
    clear h
    go_enter Tryz.func78, Tryz.ntmps78
    go_wp2
    go_end0
    have hbk' := HBK.out
    exact ⟨rfl, ⟨A, n, c, HB.out, hr, hnc, hcm, HBO.out, hne, hbk'⟩, Chg.refl _ w⟩

set_option maxHeartbeats 1000000 in
set_option maxRecDepth 100000 in
theorem rUint_any (g : Nat) (bo : Option Nat) (l : List UInt8) (e0 : Int) (w : World) (hw : RdrAt w g bo l e0) :
    Calls Tryz.prog 77 #[.pointer (some ⟨g, 0, none⟩)] w fun e w' => e = .returned (.int .u64 (uintR l e0).1) ∧
      RdrAt w' g bo (uintR l e0).2.1 (uintR l e0).2.2 ∧ Chg (fun k => k = g) w w' := by
  have HW := Lib.hid hw
  obtain ⟨A, n, c, hb, hr, hnc, hcm, hbo, hne, hbk⟩ := hw
  have hcm' : c ≤ 9223372036854775807 := hcm
  have HBK := Lib.hid hbk
  clear hbk
  have hc0 := hb.cell 0 rfl
  have hc1 := hb.cell 1 rfl
  have hf0 := hb.frozen 0
  have hln : l.length = n := by have := hr.len; rwa [bs_length] at this
  have HLN := Lib.hid hln
  have HB := Lib.hid hb
  have HBO := Lib.hid hbo
  have HR := Lib.hid hr
  clear hb hbo hr hln
  by_cases h : e0 = 0
  · subst h
    go_enter Tryz.func77, Tryz.ntmps77
    go_wp2
    go_loop [3, 4] (fun v i => ∃ k acc : Nat, k ≤ 9 ∧ k ≤ n ∧ i = .int .i64 k ∧ v = .int .u64 acc ∧ acc < 128 ^ k ∧ scanU k acc (l.drop k) = getU l) (fun _ i => 10 - (intOf i).toNat)
    case atStart => exact ⟨0, 0, by omega, by omega, rfl, rfl, by simp, by simp [getU]⟩
    case round =>
      obtain ⟨k, acc, hk9, hkn, rfl, rfl, hacc, hsc⟩ := hrel
      have HSC := Lib.hid hsc
      have HACC := Lib.hid hacc
      clear hsc hacc
      by_cases hlt : k < n
      · obtain ⟨ad, u, rfl, hu, hcu⟩ := HR.out.at_ hlt
        obtain ⟨x, hx, rfl⟩ := bs_at hu
        have HX := Lib.hid hx
        clear hx hu
        have hx2 := x.toNat_lt
        have hcut := fun W => run_cut elemBytes .i64 (some ad) n c (k + 1) ((k : Int) + 1) (by omega) (by omega) W
        by_cases hbad : (k = 9 ∧ 1 < x.toNat) ∨ (0 < k ∧ x.toNat = 0)
        · have hg : getU l = .error 2 := by rw [← HSC.out, drop_cons HX.out, scanU_bad hbad]
          have HG := Lib.hid (uintR_err hg)
          clear hg
          by_cases hk : k = 9
          · have h9 : (((k : Int)) == 9) = true := by rw [hk]; rfl
            have HK := Lib.hid hk
            have hk0 : 0 < k := by omega
            by_cases h1 : 1 < x.toNat
            · have h1' : decide (1 < (x.toNat : Int)) = true := by simp; omega
              clear hbad hcut hk
              go_wp2_with fail
              refine (rFail_any g bo l 0 2 w HW.out).mono ?_
              rintro e w1 ⟨rfl, hw1, hc1⟩
              go_wp2
              go_ret
              rw [HG.out]
              exact ⟨rfl, hw1, hc1⟩
            · have h1' : decide (1 < (x.toNat : Int)) = false := by simp; omega
              have h0' : ((x.toNat : Int) == 0) = true := by
                rcases hbad with h | h
                · omega
                · simp [h.2]
              clear hbad hcut hk
              go_wp2_with fail
              refine (rFail_any g bo l 0 2 w HW.out).mono ?_
              rintro e w1 ⟨rfl, hw1, hc1⟩
              go_wp2
              go_ret
              rw [HG.out]
              exact ⟨rfl, hw1, hc1⟩
          · have h9 : (((k : Int)) == 9) = false := by simp; omega
            have hk0 : 0 < k := by omega
            have h0' : ((x.toNat : Int) == 0) = true := by
              rcases hbad with h | h
              · omega
              · simp [h.2]
            clear hbad hcut hk
            go_wp2_with fail
            refine (rFail_any g bo l 0 2 w HW.out).mono ?_
            rintro e w1 ⟨rfl, hw1, hc1⟩
            go_wp2
            go_ret
            rw [HG.out]
            exact ⟨rfl, hw1, hc1⟩
        · have HBAD := Lib.hid hbad
          clear hbad
          have hval := Lib.hid (uint_val (x := x.toNat) hk9 HACC.out hx2 (fun h => by have := HBAD.out; omega))
          by_cases hend : x.toNat < 128
          · have hg : getU l = .ok (acc + x.toNat * 128 ^ k, l.drop (k + 1)) := by rw [← HSC.out, drop_cons HX.out, scanU_end HBAD.out hend]
            have HG := Lib.hid (uintR_ok hg)
            clear hg
            have fin : ∀ v : Int, v = bits .or .u64 (acc : Int) (IntKind.u64.wrap (IntKind.u64.wrap (bits .and .u8 (x.toNat : Int) 127) * 2 ^ (7 * k))) →
                Ending.returned (.int .u64 v) = .returned (.int .u64 (uintR l 0).1) ∧ RdrAt (w.setCell ⟨g, 0, none⟩ (.slice (cutA (some ad) c (k + 1)) (n - (k + 1)) (c - (k + 1)))) g bo (uintR l 0).2.1 (uintR l 0).2.2 ∧ Chg (fun k => k = g) w (w.setCell ⟨g, 0, none⟩ (.slice (cutA (some ad) c (k + 1)) (n - (k + 1)) (c - (k + 1)))) := by
              intro v hv
              have hchg : Chg (fun k => k = g) w (w.setCell ⟨g, 0, none⟩ (.slice (cutA (some ad) c (k + 1)) (n - (k + 1)) (c - (k + 1)))) := (Chg.refl (fun k => k = g) w).setCell (p := ⟨g, 0, none⟩) (fun _ => rfl) _
              rw [HG.out]
              refine ⟨ret_int (by rw [hv, hval.out, Nat.mod_eq_of_lt hend]), ⟨_, _, _, HB.out.set_ 0 _, ?_, by omega, Nat.le_trans (Nat.sub_le _ _) hcm, ?_, hne, fun k hk => Nat.lt_of_lt_of_le (HBK.out k hk) hchg.size⟩, hchg⟩
              · have := (HR.out.cutA (k := k + 1) (cap := c) (by omega) hnc).chg hchg (fun j hj _ e => hne (by rw [← HBO.out, ← blk_cutA _ c (k + 1), hj, e]))
                rwa [bs_drop] at this
              · rw [blk_cutA]; exact HBO.out
            have FIN := Lib.hid fin
            clear fin
            by_cases hk : k = 9
            · have h9 : (((k : Int)) == 9) = true := by rw [hk]; rfl
              have h1' : decide (1 < (x.toNat : Int)) = false := by have := HBAD.out; simp; omega
              have h0' : ((x.toNat : Int) == 0) = false := by have := HBAD.out; simp; omega
              have hk0 : 0 < k := by omega
              clear hk
              go_wp2_with fail
              go_ret
              exact FIN.out _ rfl
            · have h9 : (((k : Int)) == 9) = false := by simp; omega
              by_cases hk0 : 0 < k
              · have h0' : ((x.toNat : Int) == 0) = false := by have := HBAD.out; simp; omega
                go_wp2_with fail
                go_ret
                exact FIN.out _ rfl
              · go_wp2_with fail
                go_ret
                exact FIN.out _ rfl
          · have h9 : (((k : Int)) == 9) = false := by have := HBAD.out; simp; omega
            have h9' : k + 1 ≤ 9 := by have := HBAD.out; omega
            have h0 : ((x.toNat : Int) == 0) = false := by simp; omega
            have HG : Hid (scanU (k + 1) (acc + (x.toNat % 128) * 128 ^ k) (l.drop (k + 1)) = getU l) := by
              show _ = _
              rw [← HSC.out, drop_cons HX.out, scanU_on HBAD.out hend]
            clear hcut
            by_cases hk0 : 0 < k
            all_goals
              go_wp2_with fail
              go_round
              case rel => exact ⟨k + 1, _, h9', by omega, by go_num, by rw [hval.out], uint_lt HACC.out, HG.out⟩
              case measure => simp [intOf]; omega
      · have hk : k = n := by omega
        subst hk
        have hg : getU l = .error 3 := by rw [← HSC.out, List.drop_of_length_le (by rw [HLN.out]; omega), scanU_nil]
        have HG := Lib.hid (uintR_err hg)
        clear hg
        go_wp2_with fail
        refine (rFail_any g bo l 0 3 w HW.out).mono ?_
        rintro e w1 ⟨rfl, hw1, hc1⟩
        go_wp2
        go_ret
        rw [HG.out]
        exact ⟨rfl, hw1, hc1⟩
  · have HG := Lib.hid (uintR_bad (l := l) h)
    have h' : (e0 != 0) = true := by simpa using h
    clear h
    go_enter Tryz.func77, Tryz.ntmps77
    go_wp2
    go_ret
    rw [HG.out]
    exact ⟨rfl, HW.out, Chg.refl _ w⟩

end Go.Proofs.YtblcaeoeeepajaaGreatDoor
