/- The parts PureText, TextA, TextB, TextC, TextD, TextE, RefI, RefJ, RefU of the proof, in one text. -/
import Derived.Lib.ItoaNum
import Derived.Lib.Atoi
import Derived.Deep.RegionHeld3
import Derived.Test.YtgofjkppeobjfaaDoorB5
set_option linter.unusedSimpArgs false
set_option linter.unusedVariables false

namespace Go.Txt
set_option linter.unusedVariables false
open Go.Lib (decDigits nDigits)

theorem snocRec {α : Type} {motive : List α → Prop} (nil : motive []) (snoc : ∀ l c, motive l → motive (l ++ [c])) (l : List α) : motive l := by
  rw [← List.reverse_reverse l]
  induction l.reverse with
  | nil => exact nil
  | cons a t ih => rw [List.reverse_cons]; exact snoc _ _ ih

theorem dec_small {u : Nat} (h : u < 10) : decDigits u = [UInt8.ofNat (48 + u)] := by rw [decDigits, dif_pos h]
theorem dec_big {u : Nat} (h : ¬ u < 10) : decDigits u = decDigits (u / 10) ++ [UInt8.ofNat (48 + u % 10)] := by rw [decDigits, dif_neg h]
/-- The last k digits of r. -/
def pad : Nat → Nat → List UInt8
  | 0, _ => []
  | k + 1, r => pad k (r / 10) ++ [UInt8.ofNat (48 + r % 10)]
theorem pad_len (k r : Nat) : (pad k r).length = k := by
  induction k generalizing r with
  | zero => rfl
  | succ k ih => simp [pad, ih]
theorem dec_pad (k : Nat) : ∀ (q r : Nat), r < 10 ^ k → 0 < q → decDigits (q * 10 ^ k + r) = decDigits q ++ pad k r := by
  induction k with
  | zero => intro q r hr hq; simp [pad] at hr ⊢; rw [hr]; rfl
  | succ k ih =>
    intro q r hr hq
    have hp : 1 ≤ 10 ^ k := Nat.one_le_pow _ _ (by decide)
    have e : q * 10 ^ (k + 1) = q * 10 ^ k * 10 := by rw [Nat.pow_succ, Nat.mul_assoc]
    have h1 : 10 ^ k ≤ q * 10 ^ k := Nat.le_mul_of_pos_left _ hq
    have h2 : r < 10 ^ k * 10 := by rwa [Nat.pow_succ] at hr
    rw [dec_big (by omega), pad, show (q * 10 ^ (k + 1) + r) / 10 = q * 10 ^ k + r / 10 by omega, ih q (r / 10) (by omega) hq, List.append_assoc, show (q * 10 ^ (k + 1) + r) % 10 = r % 10 by omega]
theorem rep_snoc (k : Nat) (a : UInt8) : List.replicate (k + 1) a = List.replicate k a ++ [a] := by
  rw [List.replicate_succ']
theorem pad_zero (k : Nat) : pad k 0 = List.replicate k 48 := by
  induction k with
  | zero => rfl
  | succ k ih => rw [pad, Nat.zero_div, ih, rep_snoc]; rfl
theorem pad_dec (k : Nat) : ∀ u, 1 ≤ k → u < 10 ^ k → pad k u = List.replicate (k - (decDigits u).length) 48 ++ decDigits u := by
  induction k with
  | zero => intro u h; omega
  | succ k ih =>
    intro u _ hu
    by_cases h : u < 10
    · rw [dec_small h, pad, Nat.div_eq_of_lt h, pad_zero, Nat.mod_eq_of_lt h]; simp
    · have hk : 1 ≤ k := by
        rcases Nat.eq_zero_or_pos k with h0 | h0
        · subst h0; simp at hu; omega
        · exact h0
      rw [dec_big h, pad, ih (u / 10) hk (by rw [Nat.pow_succ] at hu; omega), List.append_assoc]
      simp
theorem dec_len_le {u k : Nat} (hk : 1 ≤ k) (h : u < 10 ^ k) : (decDigits u).length ≤ k := by
  have h1 := congrArg List.length (pad_dec k u hk h)
  rw [pad_len] at h1
  simp at h1
  omega
theorem dec_len_pos (u : Nat) : 1 ≤ (decDigits u).length := by
  rw [Go.Lib.decDigits_length]; exact Go.Lib.nDigits_pos u

/-! ### digits -/
def isDig (c : UInt8) : Prop := 48 ≤ c.toNat ∧ c.toNat ≤ 57
instance (c : UInt8) : Decidable (isDig c) := inferInstanceAs (Decidable (_ ∧ _))
def AllDig (l : List UInt8) : Prop := ∀ c ∈ l, isDig c
theorem AllDig.nil : AllDig [] := fun _ h => by simp at h
theorem AllDig.append {a b : List UInt8} (ha : AllDig a) (hb : AllDig b) : AllDig (a ++ b) := fun c h => (List.mem_append.1 h).elim (ha c) (hb c)
theorem AllDig.left {a b : List UInt8} (h : AllDig (a ++ b)) : AllDig a := fun c hc => h c (List.mem_append.2 (.inl hc))
theorem AllDig.right {a b : List UInt8} (h : AllDig (a ++ b)) : AllDig b := fun c hc => h c (List.mem_append.2 (.inr hc))
theorem AllDig.take {a : List UInt8} (h : AllDig a) (k : Nat) : AllDig (a.take k) := fun c hc => h c (List.mem_of_mem_take hc)
theorem AllDig.drop {a : List UInt8} (h : AllDig a) (k : Nat) : AllDig (a.drop k) := fun c hc => h c (List.mem_of_mem_drop hc)
theorem dig_nat {d : Nat} (h : d < 10) : (UInt8.ofNat (48 + d)).toNat = 48 + d := by
  rw [UInt8.toNat_ofNat']; omega
theorem AllDig.one {d : Nat} (h : d < 10) : AllDig [UInt8.ofNat (48 + d)] := by
  intro c hc
  rw [List.mem_singleton] at hc
  subst hc
  unfold isDig
  rw [dig_nat h]; omega
theorem allDig_dec (u : Nat) : AllDig (decDigits u) := by
  induction u using Nat.strongRecOn with
  | _ u ih =>
    by_cases h : u < 10
    · rw [dec_small h]; exact AllDig.one h
    · rw [dec_big h]; exact (ih _ (by omega)).append (AllDig.one (by omega))
theorem allDig_pad (k r : Nat) : AllDig (pad k r) := by
  induction k generalizing r with
  | zero => exact AllDig.nil
  | succ k ih => exact (ih _).append (AllDig.one (by omega))
def decVal (l : List UInt8) : Nat := l.foldl (fun a c => a * 10 + (c.toNat - 48)) 0
theorem decVal_nil : decVal [] = 0 := rfl
theorem decVal_snoc (l : List UInt8) (c : UInt8) : decVal (l ++ [c]) = decVal l * 10 + (c.toNat - 48) := by simp [decVal]
theorem decVal_append (a b : List UInt8) : decVal (a ++ b) = decVal a * 10 ^ b.length + decVal b := by
  induction b using snocRec with
  | nil => simp [decVal_nil]
  | snoc b c ih =>
    rw [← List.append_assoc, decVal_snoc, ih, decVal_snoc, List.length_append, List.length_singleton, Nat.pow_succ, Nat.add_mul, Nat.mul_assoc, Nat.add_assoc]
theorem decVal_dec (u : Nat) : decVal (decDigits u) = u := by
  induction u using Nat.strongRecOn with
  | _ u ih =>
    by_cases h : u < 10
    · rw [dec_small h]
      simp [decVal, UInt8.toNat_ofNat']
      omega
    · rw [dec_big h, decVal_snoc, ih _ (by omega), dig_nat (by omega)]; omega
theorem decVal_lt {l : List UInt8} (h : AllDig l) : decVal l < 10 ^ l.length := by
  induction l using snocRec with
  | nil => simp [decVal_nil]
  | snoc l c ih =>
    have h1 := ih h.left
    have h2 := h.right c (by simp)
    rw [decVal_snoc, List.length_append, List.length_singleton, Nat.pow_succ]
    unfold isDig at h2
    omega
theorem byte_of_dig {c : UInt8} (h : isDig c) : UInt8.ofNat (48 + (c.toNat - 48)) = c := by
  unfold isDig at h
  rw [show 48 + (c.toNat - 48) = c.toNat by omega]
  exact UInt8.ofNat_toNat
/-- Digits without a zero ahead. -/
def Formed (l : List UInt8) : Prop := AllDig l ∧ (l = [48] ∨ ∃ c t, l = c :: t ∧ c ≠ 48)
theorem Formed.ne {l : List UInt8} (h : Formed l) : l ≠ [] := by
  rcases h.2 with rfl | ⟨c, t, rfl, _⟩ <;> simp
theorem dec_of_val {l : List UInt8} (h : Formed l) : decDigits (decVal l) = l := by
  obtain ⟨hd, h⟩ := h
  rcases h with rfl | ⟨c, t, rfl, hc⟩
  · rw [show decVal [48] = 0 by rfl, dec_small (by omega)]; rfl
  · induction t using snocRec with
    | nil =>
      have h1 := hd c (by simp)
      have : decVal [c] = c.toNat - 48 := by simp [decVal]
      unfold isDig at h1
      rw [this, dec_small (by omega), byte_of_dig h1]
    | snoc t x ih =>
      rw [← List.cons_append] at hd ⊢
      have h1 := hd.right x (by simp)
      have h2 := ih hd.left
      have hx := h1
      unfold isDig at h1
      have hpos : 0 < decVal (c :: t) := by
        rcases Nat.eq_zero_or_pos (decVal (c :: t)) with h0 | h0
        · exfalso
          rw [h0, dec_small (by omega)] at h2
          injection h2 with h3 h4
          exact hc h3.symm
        · exact h0
      rw [decVal_snoc, dec_big (by omega), show (decVal (c :: t) * 10 + (x.toNat - 48)) / 10 = decVal (c :: t) by omega, h2, show (decVal (c :: t) * 10 + (x.toNat - 48)) % 10 = x.toNat - 48 by omega, byte_of_dig hx]
theorem formed_dec (u : Nat) : Formed (decDigits u) := by
  refine ⟨allDig_dec u, ?_⟩
  induction u using Nat.strongRecOn with
  | _ u ih =>
    by_cases h : u < 10
    · rw [dec_small h]
      rcases Nat.eq_zero_or_pos u with h0 | h0
      · subst h0; left; rfl
      · right
        refine ⟨_, [], rfl, fun e => ?_⟩
        have := congrArg UInt8.toNat e
        rw [dig_nat h] at this
        simp at this
        omega
    · rw [dec_big h]
      right
      rcases ih (u / 10) (by omega) with e | ⟨c, t, e, hc⟩
      · exfalso
        have := decVal_dec (u / 10)
        rw [e] at this
        have h2 : decVal [48] = 0 := rfl
        omega
      · rw [e]; exact ⟨c, _, rfl, hc⟩
theorem dec_inj {a b : Nat} (h : decDigits a = decDigits b) : a = b := by rw [← decVal_dec a, h, decVal_dec]

/-! ### texts of integers -/
def text (z : Int) : List UInt8 := if z < 0 then 45 :: decDigits z.natAbs else decDigits z.natAbs
theorem not45 {l : List UInt8} (h : AllDig l) {t : List UInt8} : l ≠ 45 :: t := by
  intro e; subst e
  have := h 45 (by simp)
  unfold isDig at this
  simp at this
theorem text_inj {a b : Int} (h : text a = text b) : a = b := by
  unfold text at h
  split at h <;> split at h
  · injection h with _ h; have := dec_inj h; omega
  · exact absurd h.symm (not45 (allDig_dec _))
  · exact absurd h (not45 (allDig_dec _))
  · have := dec_inj h; omega
theorem text_len_pos (z : Int) : 1 ≤ (text z).length := by
  unfold text
  have := dec_len_pos z.natAbs
  split <;> simp <;> omega
theorem text_len {z : Int} {k : Nat} (hk : 1 ≤ k) (h : z.natAbs < 10 ^ k) : (text z).length ≤ k + 1 := by
  have := dec_len_le hk h
  unfold text
  split <;> simp <;> omega
/-- The sign and the rest of a text. -/
def body (l : List UInt8) : List UInt8 := if l.head? = some 45 then l.tail else l
/-- The integer with a text. -/
def Reads (l : List UInt8) (z : Int) : Prop := Formed (body l) ∧ ¬ (l.head? = some 45 ∧ body l = [48]) ∧ z = (if l.head? = some 45 then -(decVal (body l) : Int) else (decVal (body l) : Int))
theorem Reads.text {l : List UInt8} {z : Int} (h : Reads l z) : text z = l := by
  obtain ⟨h1, h2, h3⟩ := h
  have h4 := dec_of_val h1
  by_cases hs : l.head? = some 45
  · rw [if_pos hs] at h3
    obtain ⟨t, rfl⟩ : ∃ t, l = 45 :: t := by
      cases l with
      | nil => simp at hs
      | cons a t => simp at hs; exact ⟨t, by rw [hs]⟩
    have hb : body (45 :: t) = t := by simp [body]
    rw [hb] at h1 h2 h3 h4
    have hpos : 0 < decVal t := by
      rcases Nat.eq_zero_or_pos (decVal t) with h0 | h0
      · exfalso
        rw [h0, dec_small (by omega)] at h4
        exact h2 ⟨hs, h4.symm⟩
      · exact h0
    unfold Txt.text
    rw [if_pos (by omega), show z.natAbs = decVal t by omega, h4]
  · rw [if_neg hs] at h3
    have hb : body l = l := by simp [body, hs]
    rw [hb] at h1 h2 h3 h4
    unfold Txt.text
    rw [if_neg (by omega), show z.natAbs = decVal l by omega, h4]
theorem reads_text (z : Int) : Reads (text z) z := by
  have hf := formed_dec z.natAbs
  by_cases h : z < 0
  · have e : text z = 45 :: decDigits z.natAbs := by unfold text; rw [if_pos h]
    have hb : body (text z) = decDigits z.natAbs := by rw [e]; simp [body]
    have hh : (text z).head? = some 45 := by rw [e]; rfl
    refine ⟨by rw [hb]; exact hf, ?_, by rw [if_pos hh, hb, decVal_dec]; omega⟩
    rintro ⟨_, h2⟩
    rw [hb] at h2
    have := decVal_dec z.natAbs
    rw [h2] at this
    have h3 : decVal [48] = 0 := rfl
    omega
  · have e : text z = decDigits z.natAbs := by unfold text; rw [if_neg h]
    have hh : (text z).head? ≠ some 45 := by
      rw [e]
      intro hh
      cases hd : decDigits z.natAbs with
      | nil => rw [hd] at hh; simp at hh
      | cons a t => rw [hd] at hh; simp at hh; exact not45 (allDig_dec _) (by rw [hd, hh])
    have hb : body (text z) = decDigits z.natAbs := by rw [body, if_neg hh, e]
    exact ⟨by rw [hb]; exact hf, fun h => hh h.1, by rw [if_neg hh, hb, decVal_dec]; omega⟩
theorem Reads.uniq {l : List UInt8} {z z' : Int} (h : Reads l z) (h' : Reads l z') : z = z' := by rw [h.2.2, h'.2.2]
theorem Reads.body_len (l : List UInt8) : (body l).length ≤ l.length := by
  unfold body; split
  · simp
  · exact Nat.le_refl _
end Go.Txt

namespace Go.Proofs.YtgofjkppeobjfaaDoor
set_option linter.unusedVariables false
open Go.RowKit Go.Mem Go.Dig
open Go.Lib (decDigits)

/-- The string with these bytes. -/
def St (l : List UInt8) : ByteArray := ⟨l.toArray⟩
theorem St_app (a b : List UInt8) : St a ++ St b = St (a ++ b) := by
  unfold St
  apply ByteArray.ext
  simp
theorem St_size (a : List UInt8) : (St a).size = a.length := by simp [St, ByteArray.size]
theorem St_data (s : ByteArray) : St s.data.toList = s := by
  unfold St
  apply ByteArray.ext
  simp
theorem St_inj {a b : List UInt8} (h : St a = St b) : a = b := by
  unfold St at h
  have := congrArg (fun s : ByteArray => s.data.toList) h
  simpa using this

theorem run_slice_string_lh {P : Program} (w : World) (t : TypeId) (s : ByteArray) (ht : P.underlying t = some .string) (kl kh : IntKind) (l h : Int) (h0 : 0 ≤ l) (h1 : l ≤ h) (h2 : h ≤ s.size) :
    (Instr.slice t (.string s) (some (.int kl l)) (some (.int kh h)) none).run P w = .ok (.string (s.extract l.toNat h.toNat)) w := by
  have eh : (h.toNat : Int) = h := Int.toNat_of_nonneg (by omega)
  simp [Instr.slice, run_underlying ht, Instr.sliceBounds, run_sliceBound, sliced, *, eh, (by omega : 0 ≤ l), (by omega : 0 ≤ h)]
theorem dig_slice (P : Program) (t : TypeId) (ht : P.underlying t = some .string) (d : Nat) (hd : d < 10) (W : World) :
    (Instr.slice t (.string ⟨#[48, 49, 50, 51, 52, 53, 54, 55, 56, 57]⟩) (some (.int .i64 (d : Int))) (some (.int .i64 ((d : Int) + 1))) none).run P W = .ok (.string (St [UInt8.ofNat (48 + d)])) W := by
  have hz : (⟨#[48, 49, 50, 51, 52, 53, 54, 55, 56, 57]⟩ : ByteArray).size = 10 := rfl
  have h := run_slice_string_lh (P := P) W t ⟨#[48, 49, 50, 51, 52, 53, 54, 55, 56, 57]⟩ ht .i64 .i64 (d : Int) ((d : Int) + 1) (by omega) (by omega) (by rw [hz]; omega)
  rw [h]
  rcases (show d = 0 ∨ d = 1 ∨ d = 2 ∨ d = 3 ∨ d = 4 ∨ d = 5 ∨ d = 6 ∨ d = 7 ∨ d = 8 ∨ d = 9 by omega) with h | h | h | h | h | h | h | h | h | h <;> subst h <;> rfl

def DecI (T : List UInt8) (i : Nat) (l : List UInt8) : Prop := (if i = 0 then l else decDigits i ++ l) = T
theorem dec_step {k : Nat} {s t : List UInt8} (hk : k ≠ 0) (h : DecI t k s) : DecI t (k / 10) ([UInt8.ofNat (48 + k % 10)] ++ s) := by
  unfold DecI at h ⊢
  rw [if_neg hk] at h
  rw [← h]
  by_cases h1 : k < 10
  · rw [if_pos (by omega), Txt.dec_small h1, Nat.mod_eq_of_lt h1]
  · rw [if_neg (by omega), Txt.dec_big h1, List.append_assoc]

set_option maxHeartbeats 1000000 in
theorem decimal_any (d : Nat) (hd : d ≤ 9999) (w : World) :
    Calls Tryd.prog 43 #[.int .i64 d] w fun e w' => e = .returned (.string (St (decDigits d))) ∧ w = w' := by
  obtain ⟨T, hT⟩ : ∃ T, decDigits d = T := ⟨_, rfl⟩
  rw [hT]
  by_cases h0 : d = 0
  · subst h0
    obtain rfl : [48] = T := by rw [← hT, Txt.dec_small (by omega)]; rfl
    clear hT
    go_enter Tryd.func43, Tryd.ntmps43
    go_wp2
    go_ret
    exact ⟨rfl, rfl⟩
  · have HT := Lib.hid hT
    have hdz : ((d : Int) == 0) = false := by simp; omega
    clear hT
    go_enter Tryd.func43, Tryd.ntmps43
    go_wp2
    go_loop [5, 4, 6] (fun k s _ => ∃ (i : Nat) (b : ByteArray), k = .int .i64 (i : Int) ∧ s = .string b ∧ b.size + i ≤ 9999 ∧ Hid (∃ l, b = St l ∧ DecI T i l)) (fun k _ _ => (intOf k).toNat)
    case atStart => exact ⟨d, ⟨#[]⟩, rfl, rfl, by simp [ByteArray.size]; omega, [], rfl, by unfold DecI; rw [if_neg h0, List.append_nil]; exact HT.out⟩
    case round =>
      obtain ⟨i, b, rfl, rfl, hi, HI⟩ := hrel
      by_cases hz : i = 0
      · subst hz
        have hneg : decide ((d : Int) < 0) = false := by simp
        go_wp2
        go_ret
        obtain ⟨l, rfl, this⟩ := HI.out
        unfold DecI at this
        rw [if_pos rfl] at this
        subst this
        exact ⟨rfl, rfl⟩
      · have hzb : ((i : Int) != 0) = true := by simp; omega
        obtain ⟨r, hr⟩ : ∃ r, i % 10 = r := ⟨_, rfl⟩
        obtain ⟨q, hq⟩ : ∃ q, i / 10 = q := ⟨_, rfl⟩
        have hri : (i : Int) % 10 = (r : Int) := by omega
        have hqi : (i : Int) / 10 = (q : Int) := by omega
        have hrb : r < 10 := by omega
        have hqb : q < i := by omega
        have hsl := dig_slice Tryd.prog 9 Tryd.underlying9 r hrb
        obtain ⟨l, hbl, hdec⟩ := HI.out
        have hst := dec_step hz hdec
        rw [hr, hq] at hst
        obtain ⟨D, hD⟩ : ∃ D, St [UInt8.ofNat (48 + r)] = D := ⟨_, rfl⟩
        rw [hD] at hsl
        have hDs : D.size = 1 := by rw [← hD, St_size]; rfl
        have hsz : ¬ 9223372036854775807 < D.size + b.size := by omega
        have hnew : (D ++ b).size = D.size + b.size := by simp
        have HS : Hid (∃ l, D ++ b = St l ∧ DecI T q l) := ⟨_, by rw [← hD, hbl, St_app], hst⟩
        have HDS := Lib.hid (And.intro hDs hnew)
        have hrn : decide ((r : Int) < 0) = false := by simp
        clear hr hq hst HI hbl hdec hD hDs hnew
        go_wp2
        go_round
        case rel => exact ⟨q, _, rfl, rfl, by have := HDS.out; omega, HS.out⟩
        case measure => simp [intOf]; omega

/-- The text of digits, the first n of them read from the end. -/
def TxtI (l : List Nat) (k : Nat) (t : List UInt8) : Prop := t = decDigits (val 10000 (l.drop k))
theorem txt_step {l : List Nat} {k d : Nat} {t : List UInt8} (h : TxtI l (k + 1) t) (hd : l[k]? = some d) (hdb : d < 10000) (hpos : 0 < val 10000 (l.drop (k + 1))) : TxtI l k (t ++ Txt.pad 4 d) := by
  unfold TxtI at h ⊢
  have e := Txt.dec_pad 4 (val 10000 (l.drop (k + 1))) d (by omega) hpos
  rw [h, val_drop hd, show d + 10000 * val 10000 (l.drop (k + 1)) = val 10000 (l.drop (k + 1)) * 10 ^ 4 + d by omega, e]

theorem txt_top {l : List Nat} {z : Nat} {n : Nat} (h : Num 10000 l z) (hl : l.length = n) (hn : 1 ≤ n) : ∃ d, l[n - 1]? = some d ∧ d < 10000 ∧ 1 ≤ d ∧ TxtI l (n - 1) (decDigits d) := by
  obtain ⟨d, hd⟩ : ∃ d, l[n - 1]? = some d := ⟨_, List.getElem?_eq_getElem (by omega)⟩
  refine ⟨d, hd, h.digs.at_ hd, ?_, ?_⟩
  · rcases Nat.eq_zero_or_pos d with h0 | h0
    · exfalso
      apply h.trim
      rw [List.getLast?_eq_getElem?, hl, hd, h0]
    · exact h0
  · unfold TxtI
    rw [val_drop hd, List.drop_eq_nil_of_le (by omega), val_nil]
    simp
theorem val_drop_pos {l : List Nat} {z n k : Nat} (h : Num 10000 l z) (hl : l.length = n) (hk : k < n) : 0 < val 10000 (l.drop k) := by
  have h1 := val_pos (B := 10000) (by omega) (h.trim.drop k) (by intro e; have := congrArg List.length e; simp at this; omega)
  exact Nat.lt_of_lt_of_le (Nat.pow_pos (by omega)) h1
theorem pad4 {c : ByteArray} {d : Nat} (hd : d < 10000) (h : c = St (List.replicate (c.size - (decDigits d).length) 48 ++ decDigits d)) (h4 : c.size = 4) : c = St (Txt.pad 4 d) := by
  rw [Txt.pad_dec 4 d (by omega) (by omega), ← h4]
  exact h

set_option maxHeartbeats 1000000 in
set_option maxRecDepth 100000 in
theorem rtext_any (v : Value) (z : Int) (w : World) (hv : RN w v z) (hz : z.natAbs < 2 ^ 1000000) :
    Calls Tryd.prog 11 #[v] w fun e w' => e = .returned (.string (St (Txt.text z))) ∧ New w w' := by
  obtain ⟨s, A, n, c, rfl, hs, hm⟩ := hv
  have hn := bz_len hm hz
  obtain ⟨l, hr, hnc, hc, hN⟩ := hm
  have hll : l.length = n := by have := hr.len; rwa [nv_length] at this
  obtain ⟨T, hT⟩ : ∃ T, Txt.text z = T := ⟨_, rfl⟩
  rw [hT]
  clear hz
  by_cases h0 : n = 0
  · subst h0
    have hz0 : z.natAbs = 0 := (hN.nil_iff (by omega)).1 (List.eq_nil_of_length_eq_zero hll)
    obtain rfl : [48] = T := by
      rw [← hT]; unfold Txt.text; rw [if_neg (by omega), hz0, Txt.dec_small (by omega)]; rfl
    clear hr hN hll hT hz0 hs
    go_enter Tryd.func11, Tryd.ntmps11
    go_wp2
    go_ret
    exact ⟨rfl, (Chg.refl _ w).alloc _⟩
  · obtain ⟨d, hd, hdb, hd1, htop⟩ := txt_top hN hll (by omega)
    obtain ⟨j, hj⟩ : ∃ j, n - 1 = j := ⟨_, rfl⟩
    rw [hj] at hd htop
    have hji : (n : Int) - 1 = (j : Int) := by omega
    have hj2 : (n : Int) - 2 = (j : Int) - 1 := by omega
    have hjn : j < n := by omega
    have hn0 : ((n : Int) == 0) = false := by simp; omega
    obtain ⟨ad, u, rfl, hu, hcu⟩ := hr.at_ hjn
    obtain ⟨d', hd', rfl⟩ := nv_at hu
    obtain rfl : d = d' := by rw [hd] at hd'; injection hd'
    have H0 := Lib.hid (And.intro hr (And.intro hN (And.intro hll (And.intro hs (And.intro hT hj)))))
    have HTOP := Lib.hid htop
    have hdl := Txt.dec_len_le (u := d) (k := 4) (by omega) (by omega)
    have hcW := ((Chg.refl (fun _ => False) w).alloc (.cells #[.bool s, .slice (some ad) n c] 25)).cell hcu (fun h => h)
    clear hr hN hll hT hs hu hd' hd htop hj hcu
    go_enter Tryd.func11, Tryd.ntmps11
    go_wp2_with fail
    refine Calls.new1 ?_
    intro W hb1 hnW hzW
    refine (decimal_any d (by omega) W).mono ?_
    rintro e w1 ⟨rfl, rfl⟩
    have hk1 := hb1.cell 1 (u := .slice (some ad) n c) rfl
    have hk0 := hb1.cell 0 (u := .bool s) rfl
    have HW := Lib.hid hnW
    clear hcW hb1 hnW hzW
    obtain ⟨b0, hb0⟩ : ∃ b, St (decDigits d) = b := ⟨_, rfl⟩
    have hb0s : b0.size ≤ 4 := by rw [← hb0, St_size]; exact hdl
    rw [hb0]
    have HB0 : Hid (∃ t, b0 = St t ∧ TxtI l j t) := ⟨_, hb0.symm, HTOP.out⟩
    have hj4 : b0.size + 4 * j ≤ 4 * n := by omega
    clear hb0 HTOP hdl hji
    go_wp2_with fail
    clear hj2
    go_loop [4, 3, 5] (fun i o _ => ∃ (k : Nat) (b : ByteArray), i = .int .i64 ((k : Int) - 1) ∧ o = .string b ∧ k ≤ j ∧ b.size + 4 * k ≤ 4 * n ∧ Hid (∃ t, b = St t ∧ TxtI l k t)) (fun i _ _ => (intOf i + 1).toNat)
    case atStart => exact ⟨j, b0, rfl, rfl, Nat.le_refl _, hj4, HB0.out⟩
    case round =>
      obtain ⟨k, b, rfl, rfl, hkj, hbs, HI⟩ := hrel
      by_cases hk : k = 0
      · subst hk
        obtain ⟨t, hbt, htx⟩ := HI.out
        obtain ⟨hr, hN, hll, hs, hT, hj⟩ := H0.out
        have hfin : t = decDigits z.natAbs := by unfold TxtI at htx; rw [List.drop_zero, hN.val] at htx; exact htx
        have hneg : decide ((0 : Int) ≤ ((0 : Nat) : Int) - 1) = false := by simp
        rw [show (((0 : Nat) : Int) - 1) = -1 by rfl]
        have hbs2 : ¬ 9223372036854775807 < (⟨#[45]⟩ : ByteArray).size + b.size := by
          have : (⟨#[45]⟩ : ByteArray).size = 1 := rfl
          omega
        cases s
        · have e : St T = b := by rw [← hT, hbt, hfin]; unfold Txt.text; rw [if_neg (by simpa using hs.symm)]
          have HE := Lib.hid e
          clear hr hN hll hs hT hj hfin hbt htx HI e
          go_wp2
          go_ret
          rw [HE.out]
          exact ⟨rfl, HW.out⟩
        · have e : St T = ⟨#[45]⟩ ++ b := by
            rw [← hT, hbt, hfin]; unfold Txt.text; rw [if_pos (by simpa using hs.symm)]
            exact (St_app [45] _).symm
          have HE := Lib.hid e
          clear hr hN hll hs hT hj hfin hbt htx HI e
          go_wp2
          go_ret
          rw [HE.out]
          exact ⟨rfl, HW.out⟩
      · obtain ⟨i, rfl⟩ : ∃ i, k = i + 1 := ⟨k - 1, by omega⟩
        have hi0 : (((i + 1 : Nat) : Int) - 1) = (i : Int) := by omega
        rw [hi0]
        clear hi0
        obtain ⟨t, hbt, htx⟩ := HI.out
        obtain ⟨hr, hN, hll, hs, hT, hj⟩ := H0.out
        obtain ⟨ad2, u, hA, hu, hcu⟩ := (hr.new HW.out).at_ (show i < n by omega)
        injection hA with hA
        subst hA
        obtain ⟨d2, hd2, rfl⟩ := nv_at hu
        have hd2b : d2 < 10000 := hN.digs.at_ hd2
        have hst := txt_step htx hd2 hd2b (val_drop_pos hN hll (by omega))
        have hd2l := Txt.dec_len_le (u := d2) (k := 4) (by omega) (by omega)
        have HS := Lib.hid (And.intro hbt hst)
        clear hr hN hll hs hT hj hu hd2 hst hbt htx HI
        go_wp2_with fail
        refine (decimal_any d2 (by omega) W).mono ?_
        rintro e w1 ⟨rfl, rfl⟩
        obtain ⟨c0, hc0⟩ : ∃ b, St (decDigits d2) = b := ⟨_, rfl⟩
        have hc0s : c0.size ≤ 4 := by rw [← hc0, St_size]; exact hd2l
        have HC0 : Hid (c0 = St (List.replicate (c0.size - (decDigits d2).length) 48 ++ decDigits d2) ∧ (decDigits d2).length ≤ c0.size) := by
          have : c0.size = (decDigits d2).length := by rw [← hc0, St_size]
          exact ⟨by rw [this, Nat.sub_self]; exact hc0.symm, by omega⟩
        rw [hc0]
        clear hc0 hd2l hcu
        go_wp2_with fail
        go_loop [5] (fun s => ∃ c : ByteArray, s = .string c ∧ c.size ≤ 4 ∧ Hid (c = St (List.replicate (c.size - (decDigits d2).length) 48 ++ decDigits d2) ∧ (decDigits d2).length ≤ c.size)) (fun s => match s with | .string c => 4 - c.size | _ => 0)
        case atStart => exact ⟨c0, rfl, hc0s, HC0⟩
        case round =>
          obtain ⟨c1, rfl, hc1s, HC1⟩ := hrel
          by_cases h4 : c1.size < 4
          · have hlt : (c1.size : Int) < 4 := by omega
            have hsz : ¬ 9223372036854775807 < (⟨#[48]⟩ : ByteArray).size + c1.size := by
              have : (⟨#[48]⟩ : ByteArray).size = 1 := rfl
              omega
            have hnew : ((⟨#[48]⟩ : ByteArray) ++ c1).size = c1.size + 1 := by
              have : (⟨#[48]⟩ : ByteArray).size = 1 := rfl
              simp [this]; omega
            have HN2 : Hid ((⟨#[48]⟩ : ByteArray) ++ c1 = St (List.replicate (((⟨#[48]⟩ : ByteArray) ++ c1).size - (decDigits d2).length) 48 ++ decDigits d2) ∧ (decDigits d2).length ≤ ((⟨#[48]⟩ : ByteArray) ++ c1).size) := by
              obtain ⟨h1, h2⟩ := HC1.out
              refine ⟨?_, by omega⟩
              rw [hnew, show c1.size + 1 - (decDigits d2).length = (c1.size - (decDigits d2).length) + 1 by omega, List.replicate_succ, List.cons_append]
              have h3 := St_app [48] (List.replicate (c1.size - (decDigits d2).length) 48 ++ decDigits d2)
              rw [← h1] at h3
              exact h3
            have HNEW := Lib.hid hnew
            clear hnew HC1
            go_wp2
            go_round
            case rel => exact ⟨_, rfl, by rw [HNEW.out]; omega, HN2⟩
            case measure =>
              show 4 - ((⟨#[48]⟩ : ByteArray) ++ c1).size < 4 - c1.size
              rw [HNEW.out]; omega
          · have h44 : c1.size = 4 := by omega
            have hlt : decide ((c1.size : Int) < 4) = false := by simp; omega
            have hpad := pad4 hd2b HC1.out.1 h44
            have hsz : ¬ 9223372036854775807 < b.size + c1.size := by omega
            have hnew : (b ++ c1).size = b.size + 4 := by simp [h44]
            have HN3 : Hid (∃ t, b ++ c1 = St t ∧ TxtI l i t) := ⟨_, by rw [HS.out.1, hpad, St_app], HS.out.2⟩
            have HNEW := Lib.hid hnew
            clear hnew hpad HC1 h44
            go_wp2
            go_round
            case rel => exact ⟨i, _, rfl, rfl, by omega, by rw [HNEW.out]; omega, HN3⟩
            case measure => simp [intOf]
end Go.Proofs.YtgofjkppeobjfaaDoor

namespace Go.Proofs.YtgofjkppeobjfaaDoor
set_option linter.unusedVariables false
open Go.RowKit Go.Mem Go.Dig
open Go.Lib (decDigits)

theorem str_at {b : ByteArray} {l : List UInt8} (h : b = St l) {k : Nat} (hk : k < b.size) : l[k]? = some b[k] := by
  subst h
  rw [St_size] at hk
  rw [List.getElem?_eq_getElem hk]
  rfl

set_option maxHeartbeats 1000000 in
theorem digits_wide (b : ByteArray) (l : List UInt8) (hb : b = St l) (hn : b.size ≤ 5000) (r : Bool) (hr : r = true ↔ Txt.Formed l) (w : World) :
    Calls Tryd.prog 46 #[.string b] w fun e w' => e = .returned (.bool r) ∧ w = w' := by
  have hl : l.length = b.size := by rw [hb, St_size]
  have H0 := Lib.hid (And.intro hb (And.intro hl hr))
  clear hb hl hr
  go_enter Tryd.func46, Tryd.ntmps46
  go_wp2
  go_loop [3] (fun i => ∃ k : Nat, i = .int .i64 (k : Int) ∧ k ≤ b.size ∧ Hid (Txt.AllDig (l.take k))) (fun i => b.size - (intOf i).toNat)
  case atStart => exact ⟨0, rfl, by omega, by show Txt.AllDig _; rw [List.take_zero]; exact Txt.AllDig.nil⟩
  case round =>
    obtain ⟨k, rfl, hk, HA⟩ := hrel
    by_cases hlt : k < b.size
    · obtain ⟨hb, hl, hr⟩ := H0.out
      have hc := str_at hb hlt
      obtain ⟨c, hcc⟩ : ∃ c, b[k] = c := ⟨_, rfl⟩
      rw [hcc] at hc
      by_cases hd : Txt.isDig c
      · have hd' := hd
        unfold Txt.isDig at hd
        have h1 : decide ((c.toNat : Int) < 48) = false := by simp; omega
        have h2 : decide (57 < (c.toNat : Int)) = false := by simp; omega
        have HN : Hid (Txt.AllDig (l.take (k + 1))) := by
          show Txt.AllDig _
          rw [List.take_add_one, hc]
          refine HA.out.append (fun x hx => ?_)
          rw [show (some c).toList = [c] by rfl, List.mem_singleton] at hx
          subst hx
          exact hd'
        clear hb hl hr hc hd hd' HA
        go_wp2
        go_round
        case rel => exact ⟨k + 1, by go_num, by omega, HN⟩
        case measure => simp [intOf]; omega
      · have hrf : r = false := by
          cases r
          · rfl
          · exfalso
            exact hd ((hr.1 rfl).1 c (List.mem_of_getElem? hc))
        subst hrf
        unfold Txt.isDig at hd
        by_cases h1 : c.toNat < 48
        · have h1' : (c.toNat : Int) < 48 := by omega
          clear hb hl hr hc hd HA
          go_wp2
          go_ret
          exact ⟨rfl, rfl⟩
        · have h1' : decide ((c.toNat : Int) < 48) = false := by simp; omega
          have h2' : 57 < (c.toNat : Int) := by omega
          clear hb hl hr hc hd HA
          go_wp2
          go_ret
          exact ⟨rfl, rfl⟩
    · obtain rfl : b.size = k := by omega
      obtain ⟨hb, hl, hr⟩ := H0.out
      have hall : Txt.AllDig l := by have := HA.out; rwa [List.take_of_length_le (by omega)] at this
      have hge : decide (((b.size : Nat) : Int) < ((b.size : Nat) : Int)) = false := by simp
      cases l with
      | nil =>
        have hrf : r = false := by
          cases r
          · rfl
          · exact absurd rfl ((hr.1 rfl).ne)
        subst hrf
        have hbe : b = ⟨#[]⟩ := hb
        subst hbe
        clear hb hl hr hall HA hge
        go_wp2
        go_ret
        exact ⟨rfl, rfl⟩
      | cons c0 t =>
        have hpos : 0 < b.size := by rw [← hl]; simp
        have hc := str_at hb hpos
        simp at hc
        have htl : b.toList = c0 :: t := by rw [Lib.toList_data, hb]; simp [St]
        have hne : b.toList.isEmpty = false := by rw [htl]; rfl
        have hne2 : ¬ b.toList = [] := by rw [htl]; simp
        have hne3 : (!b.toList.isEmpty) = true := by rw [hne]; rfl
        by_cases h0 : c0 :: t = [48]
        · have hrt : r = true := hr.2 ⟨hall, .inl h0⟩
          subst hrt
          have hbe : b = ⟨#[48]⟩ := by rw [hb, h0]; rfl
          subst hbe
          clear hb hl hr hall HA hge hne hne2 hne3 htl hc hpos
          go_wp2
          go_ret
          exact ⟨rfl, rfl⟩
        · have hbe : (b.toList == [48]) = false := by rw [htl]; simpa using h0
          have hbe2 : ¬ b.toList = [48] := by rw [htl]; exact h0
          obtain ⟨c, hcc⟩ : ∃ c, b[0] = c := ⟨_, rfl⟩
          rw [hcc] at hc
          subst hc
          by_cases h48 : c0 = 48
          · have hrf : r = false := by
              cases r
              · rfl
              · exfalso
                rcases (hr.1 rfl).2 with h | ⟨a, t', h, ha⟩
                · exact h0 h
                · injection h with h1 h2
                  exact ha (h1 ▸ h48)
            subst hrf
            subst h48
            clear hb hl hr hall HA h0 htl
            go_wp2
            go_ret
            exact ⟨rfl, rfl⟩
          · have hrt : r = true := hr.2 ⟨hall, .inr ⟨c0, t, rfl, h48⟩⟩
            subst hrt
            have hcn : ((c0.toNat : Int) != 48) = true := by
              simp
              intro e
              apply h48
              exact UInt8.toNat_inj.1 (by simpa using (by omega : c0.toNat = 48))
            clear hb hl hr hall HA h0 htl
            go_wp2
            go_ret
            exact ⟨rfl, rfl⟩
end Go.Proofs.YtgofjkppeobjfaaDoor

namespace Go.Txt
set_option linter.unusedVariables false
theorem decFrom_val {l : List UInt8} (h : AllDig l) : ∀ a, Lib.decFrom a l = some (a * 10 ^ l.length + decVal l) := by
  induction l using snocRec with
  | nil => intro a; simp [Lib.decFrom, decVal_nil]
  | snoc l c ih =>
    intro a
    have hc := h.right c (by simp)
    have h1 := ih h.left a
    have h2 := Lib.decFrom_take (l ++ [c]) l.length a (a * 10 ^ l.length + decVal l) c (c.toNat - 48) (by rw [List.take_left' rfl]; exact h1) (by simp) (by unfold Lib.digitVal; unfold isDig at hc; rw [if_pos hc])
    rw [List.take_of_length_le (by simp)] at h2
    rw [h2, decVal_snoc, List.length_append, List.length_singleton, Nat.pow_succ]
    congr 1
    rw [Nat.add_mul, Nat.mul_assoc, Nat.add_assoc]
theorem atoi_val {l : List UInt8} (h : AllDig l) (hn : l ≠ []) : Lib.atoi l = some (decVal l : Int) := by
  cases l with
  | nil => exact absurd rfl hn
  | cons c t =>
    have hc := h c (by simp)
    unfold isDig at hc
    have h1 : (c == 45) = false := by simp; intro e; subst e; simp at hc
    have h2 : (c == 43) = false := by simp; intro e; subst e; simp at hc
    simp only [Lib.atoi, h1, h2, Bool.false_eq_true, if_false, Lib.decNat, List.isEmpty_cons]
    rw [decFrom_val h 0]
    simp
theorem hasPrefix45 (l : List UInt8) : Lib.hasPrefix l [45] = decide (l.head? = some 45) := by
  unfold Lib.hasPrefix
  cases l with
  | nil => simp [List.isPrefixOf]
  | cons a t =>
    simp only [List.isPrefixOf, Bool.and_true, List.head?_cons, Option.some.injEq]
    rw [Bool.eq_iff_iff, beq_iff_eq, decide_eq_true_iff]
    exact ⟨fun h => h.symm, fun h => h.symm⟩
theorem trimPrefix45 (l : List UInt8) : Lib.trimPrefix l [45] = body l := by
  unfold Lib.trimPrefix body
  rw [hasPrefix45]
  by_cases h : l.head? = some 45
  · simp [h]
  · simp [h]
end Go.Txt
namespace Go.Proofs.YtgofjkppeobjfaaDoor
set_option linter.unusedVariables false
open Go.RowKit Go.Mem Go.Dig
open Go.Lib (decDigits)

theorem St_dat (l : List UInt8) : (St l).data.toList = l := by simp [St]
theorem St_take (l : List UInt8) (k : Nat) : (St l).extract 0 k = St (l.take k) := by
  apply ByteArray.ext
  simp [St]
theorem St_drop (l : List UInt8) (k : Nat) : (St l).extract k (St l).size = St (l.drop k) := by
  apply ByteArray.ext
  simp [St, ByteArray.size]
  rw [List.take_of_length_le (by simp)]

theorem cut_any (b : ByteArray) (l : List UInt8) (hb : b = St l) (w : World) :
    Calls Tryd.prog 45 #[.string b, .string ⟨#[45]⟩] w fun e w' => e = .returned (.tuple #[.string (St (Txt.body l)), .bool (decide (l.head? = some 45))]) ∧ w = w' := by
  refine (Tryd.strings_CutPrefix b ⟨#[45]⟩ w).mono ?_
  rintro e w' ⟨rfl, rfl⟩
  subst hb
  rw [St_dat, show (⟨#[45]⟩ : ByteArray).data.toList = [45] by rfl, Txt.trimPrefix45, Txt.hasPrefix45]
  exact ⟨rfl, rfl⟩
theorem atoi_any (b : ByteArray) (l : List UInt8) (hb : b = St l) (h : Txt.AllDig l) (hn : l ≠ []) (h9 : l.length ≤ 9) (w : World) :
    Calls Tryd.prog 47 #[.string b] w fun e w' => e = .returned (.tuple #[.int .i64 (Txt.decVal l : Int), .nilIface]) ∧ New w w' := by
  subst hb
  refine (Tryd.strconv_Atoi (St l) (Txt.decVal l) (by rw [St_size]; omega) (by rw [St_dat]; exact Txt.atoi_val h hn) w).mono ?_
  rintro e w' ⟨rfl, t, rfl⟩
  exact ⟨rfl, conv_new _ _ _⟩

set_option maxHeartbeats 1000000 in
set_option maxRecDepth 100000 in
theorem wparse_long (b : ByteArray) (hn : 5000 < b.size) (w : World) :
    Calls Tryd.prog 15 #[.string b] w fun e w' => e = .returned (.tuple #[.agg #[.bool false, .slice none 0 0], .int .i64 4]) ∧ New w w' := by
  have h1 : (5000 : Int) < (b.size : Int) := by omega
  go_enter Tryd.func15, Tryd.ntmps15
  go_wp2
  exact bodyPost_ret (res_ct rfl _ rfl (aggInt.load (Blk.new _ _ _)) rfl) rfl ⟨rfl, (Chg.refl _ w).alloc _⟩

set_option maxHeartbeats 1000000 in
set_option maxRecDepth 100000 in
theorem wparse_bad (b : ByteArray) (l : List UInt8) (hb : b = St l) (hn : b.size ≤ 5000) (h : ∀ z, ¬ Txt.Reads l z) (w : World) :
    Calls Tryd.prog 15 #[.string b] w fun e w' => e = .returned (.tuple #[.agg #[.bool false, .slice none 0 0], .int .i64 2]) ∧ New w w' := by
  have h1 : decide ((5000 : Int) < (b.size : Int)) = false := by simp; omega
  have h1' : decide (5000 < b.size) = false := by simp; omega
  have hcut := cut_any b l hb
  obtain ⟨c, hc⟩ : ∃ c, St (Txt.body l) = c := ⟨_, rfl⟩
  have hcs : c.size ≤ 5000 := by rw [← hc, St_size]; have := Txt.Reads.body_len l; rw [hb, St_size] at hn; omega
  obtain ⟨g, hg⟩ : ∃ g, decide (l.head? = some 45) = g := ⟨_, rfl⟩
  rw [hc, hg] at hcut
  by_cases hf : Txt.Formed (Txt.body l)
  · have hdg := digits_wide c (Txt.body l) hc.symm hcs true ⟨fun _ => hf, fun _ => rfl⟩
    have hbad : l.head? = some 45 ∧ Txt.body l = [48] := by
      refine Classical.byContradiction (fun hx => h _ ⟨hf, hx, rfl⟩)
    obtain rfl : true = g := by rw [← hg]; simp [hbad.1]
    have hcc : c = ⟨#[48]⟩ := by rw [← hc, hbad.2]; rfl
    subst hcc
    have HC := Lib.hid (And.intro hcut hdg)
    clear hcut hdg hb h hc hg hf hbad hcs
    go_enter Tryd.func15, Tryd.ntmps15
    go_wp2_with fail
    refine (HC.out.1 _).mono ?_
    rintro e w1 ⟨rfl, rfl⟩
    go_wp2_with fail
    refine (HC.out.2 _).mono ?_
    rintro e w1 ⟨rfl, rfl⟩
    go_wp2
    exact bodyPost_ret (res_ct rfl _ rfl (aggInt.load (Blk.new _ _ _)) rfl) rfl ⟨rfl, (Chg.refl _ w).alloc _⟩
  · have hdg := digits_wide c (Txt.body l) hc.symm hcs false ⟨fun h => by simp at h, fun h => absurd h hf⟩
    have HC := Lib.hid (And.intro hcut hdg)
    clear hcut hdg hb h hc hg hf hcs
    go_enter Tryd.func15, Tryd.ntmps15
    go_wp2_with fail
    refine (HC.out.1 _).mono ?_
    rintro e w1 ⟨rfl, rfl⟩
    go_wp2_with fail
    refine (HC.out.2 _).mono ?_
    rintro e w1 ⟨rfl, rfl⟩
    go_wp2
    exact bodyPost_ret (res_ct rfl _ rfl (aggInt.load (Blk.new _ _ _)) rfl) rfl ⟨rfl, (Chg.refl _ w).alloc _⟩

theorem sg_reads {l : List UInt8} {z : Int} (h : Txt.Reads l z) : sg (decide (l.head? = some 45)) (Txt.decVal (Txt.body l)) = z := by
  rw [h.2.2]
  unfold sg
  by_cases hs : l.head? = some 45 <;> simp [hs]
theorem WD.lit1 {W : World} {g d : Nat} {t : TypeId} (hb : Blk W g t #[.int .u32 (d : Int)]) (hd : d < 4294967296) : WD W (some ⟨g, 0, none⟩) 1 1 d := by
  refine ⟨[d], ⟨rfl, fun _ => ⟨_, rfl, fun j u hu => ?_⟩⟩, Nat.le_refl _, by omega, ⟨Digs.cons hd (Digs.nil _), by simp [val_cons, val_nil]⟩⟩
  match j, hu with
  | 0, hu =>
    simp [nv] at hu
    subst hu
    rw [Addr.add_lit]
    exact hb.cell 0 rfl
theorem WM.lit1 {W : World} {g d : Nat} {t : TypeId} (hb : Blk W g t #[.int .u32 (d : Int)]) (hd : d < 4294967296) (h1 : 1 ≤ d) : WM W (some ⟨g, 0, none⟩) 1 1 d := by
  obtain ⟨l, h2, h3, h4, h5⟩ := WD.lit1 hb hd
  refine ⟨[d], ?_, h3, h4, ⟨Digs.cons hd (Digs.nil _), by simp [Trim]; omega, by simp [val_cons, val_nil]⟩⟩
  refine ⟨rfl, fun _ => ⟨_, rfl, fun j u hu => ?_⟩⟩
  match j, hu with
  | 0, hu =>
    simp [nv] at hu
    subst hu
    rw [Addr.add_lit]
    exact hb.cell 0 rfl
theorem val_bound {l : List UInt8} (h : Txt.AllDig l) {k : Nat} (hk : l.length ≤ k) : Txt.decVal l < 4294967296 ^ k :=
  Nat.lt_of_lt_of_le (Txt.decVal_lt h) (Nat.le_trans (Nat.pow_le_pow_left (by omega) _) (Nat.pow_le_pow_right (by omega) hk))
theorem chunk_len (m : Nat) (hm : 0 < m) : (m - 1) % 9 + 1 ≤ m ∧ (m - 1) % 9 + 1 ≤ 9 := by
  have := Nat.mod_le (m - 1) 9
  omega
theorem val_chunk (t : List UInt8) (k j : Nat) (hj : k + j ≤ t.length) (h9 : k = 0 ∨ j = 9) : Txt.decVal (t.take k) * 1000000000 + Txt.decVal ((t.drop k).take j) = Txt.decVal (t.take (k + j)) := by
  rw [List.take_add, Txt.decVal_append, List.length_take, Nat.min_eq_left (by simp; omega)]
  rcases h9 with h | h
  · subst h
    rw [List.take_zero, Txt.decVal_nil]
    omega
  · subst h; rfl

set_option maxHeartbeats 4000000 in
set_option maxRecDepth 100000 in
theorem wparse_ok (b : ByteArray) (l : List UInt8) (hb : b = St l) (hn : b.size ≤ 5000) (z : Int) (h : Txt.Reads l z) (w : World) :
    Calls Tryd.prog 15 #[.string b] w fun e w' => ∃ s A n c, e = .returned (.tuple #[.agg #[.bool s, .slice A n c], .int .i64 (rgE z)]) ∧ Hid (WI w' (.agg #[.bool s, .slice A n c]) (rg z) ∧ New w w') := by
  have h1 : decide ((5000 : Int) < (b.size : Int)) = false := by simp; omega
  have h1' : decide (5000 < b.size) = false := by simp; omega
  have hcut := cut_any b l hb
  obtain ⟨c, hc⟩ : ∃ c, St (Txt.body l) = c := ⟨_, rfl⟩
  have hbl := Txt.Reads.body_len l
  have hcs : c.size ≤ 5000 := by rw [← hc, St_size]; rw [hb, St_size] at hn; omega
  obtain ⟨g, hg⟩ : ∃ g, decide (l.head? = some 45) = g := ⟨_, rfl⟩
  rw [hc, hg] at hcut
  have hdg := digits_wide c (Txt.body l) hc.symm hcs true ⟨fun _ => h.1, fun _ => rfl⟩
  have hall := h.1.1
  have hsg := sg_reads h
  rw [hg] at hsg
  obtain ⟨t, ht⟩ : ∃ t, Txt.body l = t := ⟨_, rfl⟩
  rw [ht] at hc hall hsg
  have hneg : g = false ∨ (g = true ∧ (c.toList == [48]) = false) := by
    by_cases h45 : l.head? = some 45
    · right
      refine ⟨by rw [← hg]; simp [h45], ?_⟩
      have h2 := h.2.1
      have : t ≠ [48] := fun e => h2 ⟨h45, by rw [ht, e]⟩
      rw [Lib.toList_data, ← hc, St_dat]
      simpa using this
    · left; rw [← hg]; simp [h45]
  obtain ⟨E, hE⟩ : ∃ E, rgE z = E := ⟨_, rfl⟩
  rw [hE]
  have htl : t.length = c.size := by rw [← hc, St_size]
  have HC := Lib.hid (And.intro hcut hdg)
  have H0 := Lib.hid (And.intro hc (And.intro hall (And.intro hsg (And.intro hE htl))))
  clear hcut hdg hb h hc hg hbl hall hsg ht hE htl
  go_enter Tryd.func15, Tryd.ntmps15
  go_wp2_with fail
  refine Calls.new1 ?_
  intro W hbW hnW hzW
  refine (HC.out.1 W).mono ?_
  rintro e w1 ⟨rfl, rfl⟩
  go_wp2_with fail
  refine (HC.out.2 W).mono ?_
  rintro e w1 ⟨rfl, rfl⟩
  have HW := Lib.hid (And.intro hbW (And.intro hnW hzW))
  clear hbW hnW hzW HC
  have hneg2 : g = false ∨ (g = true ∧ (c.toList == [48]) = false ∧ ¬ c.toList = [48]) := by
    rcases hneg with h | ⟨h, h2⟩
    · exact .inl h
    · exact .inr ⟨h, h2, by simpa using h2⟩
  clear hneg
  have hran : ∀ R m d wo, WM wo R m d (Txt.decVal t) → Calls Tryd.prog 50 #[.bool g, .slice R m d] wo fun e w' => ∃ s' A' n' c', e = .returned (.tuple #[.agg #[.bool s', .slice A' n' c'], .int .i64 E]) ∧ Hid (WI w' (.agg #[.bool s', .slice A' n' c']) (rg z) ∧ New wo w') := fun R m d wo hwm => by
    have := ranged_wm g R m d _ wo hwm
    rw [H0.out.2.2.1, H0.out.2.2.2.1] at this
    exact this
  have HRAN := Lib.hid hran
  clear hran
  rcases hneg2 with h | ⟨h, h48, h48'⟩ <;> subst h
  all_goals
    go_wp2_with fail
    (try clear h48 h48')
    go_loopw [4, 6, 7, 8, 9] (fun s4 s6 _ _ _ wr => ∃ (k : Nat) (b' : ByteArray) (R : Option Addr) (m d : Nat), s4 = .string b' ∧ s6 = .slice R m d ∧ k + b'.size = c.size ∧ (k = 0 ∨ b'.size % 9 = 0) ∧ Hid (b' = St (t.drop k) ∧ WM wr R m d (Txt.decVal (t.take k)) ∧ New W wr)) (fun s4 _ _ _ _ _ => match s4 with | .string b => b.size | _ => 0)
    case atStart => exact ⟨0, c, none, 0, 0, rfl, rfl, by omega, .inl rfl, H0.out.1.symm, WM.zero _, Chg.refl _ _⟩
    case round =>
      obtain ⟨k, b', R, m, d, rfl, rfl, hkc, hk9, HI⟩ := hrel
      obtain ⟨wo, rfl⟩ : ∃ wo : World, wo = wr := ⟨_, rfl⟩
      obtain ⟨hc, hall, hsg, hE, htl⟩ := H0.out
      obtain ⟨hb', hwm, hnw⟩ := HI.out
      have hm : m ≤ 5000 := Nat.le_trans (hwm.len (val_bound (hall.take k) (k := c.size) (by simp; omega))) hcs
      by_cases h0 : b'.size = 0
      · have hpos : decide ((0 : Int) < ((b'.size : Nat) : Int)) = false := by rw [h0]; rfl
        have hpos' : decide (0 < b'.size) = false := by rw [h0]; rfl
        have hk : k = t.length := by omega
        rw [hk, List.take_length] at hwm
        have hran := HRAN.out R m d wo hwm
        have hbw := HW.out.1.chg hnw (fun h => h)
        have HR := Lib.hid (And.intro hran (And.intro hbw hnw))
        clear hc hall hsg hE htl hb' hwm hnw hk hran hbw HI h0
        go_wp2_with fail
        refine HR.out.1.mono ?_
        rintro e w5 ⟨s5, A5, n5, c5, rfl, H5⟩
        have hb5 := HR.out.2.1.chg H5.out.2 (fun h => h)
        have g0 := hb5.cell 0 rfl
        have g1 := hb5.cell 1 rfl
        have f0 := hb5.frozen 0
        have f1 := hb5.frozen 1
        have HB := Lib.hid hb5
        clear hb5
        go_wp2
        refine bodyPost_ret (res_ct rfl _ rfl (aggInt.load (HB.out.set2 _ _)) rfl) rfl ⟨s5, A5, n5, c5, rfl, H5.out.1.store HB.out (noInt_two _ _ _ _) (Chg.at2 _ _ _ _), ?_⟩
        exact Chg.owned ((HW.out.2.1.new HR.out.2.2).new H5.out.2) (Chg.at2 _ _ _ _) (fun k e => by omega)
      · have hpos : (0 : Int) < ((b'.size : Nat) : Int) := by omega
        have hpos' : 0 < b'.size := by omega
        obtain ⟨p, hp⟩ : ∃ p, b'.size - 1 = p := ⟨_, rfl⟩
        obtain ⟨q, hq⟩ : ∃ q, p % 9 = q := ⟨_, rfl⟩
        obtain ⟨j, hj⟩ : ∃ j, q + 1 = j := ⟨_, rfl⟩
        have hpi : ((b'.size : Nat) : Int) - 1 = (p : Int) := by omega
        have hqi : (p : Int) % 9 = (q : Int) := by omega
        have hji : (q : Int) + 1 = (j : Int) := by omega
        have hj9 : j ≤ 9 := by omega
        have hjb : j ≤ b'.size := by omega
        have hjk : k = 0 ∨ j = 9 := by omega
        have hrest : (b'.size - j) % 9 = 0 := by omega
        have hdl : (t.drop k).length = b'.size := by simp; omega
        obtain ⟨b1, hb1⟩ : ∃ x, St ((t.drop k).take j) = x := ⟨_, rfl⟩
        obtain ⟨b2, hb2⟩ : ∃ x, St ((t.drop k).drop j) = x := ⟨_, rfl⟩
        have hb2s : b2.size = b'.size - j := by rw [← hb2, St_size, List.length_drop, hdl]
        have hs1 : ∀ W, (Instr.slice 9 (.string b') none (some (.int .i64 (j : Int))) none).run Tryd.prog W = .ok (.string b1) W := fun W => by
          rw [run_slice_string_h W 9 b' Tryd.underlying9 .i64 (j : Int) (by omega) (by omega), Int.toNat_natCast, hb', St_take, hb1]
        have hs2 : ∀ W, (Instr.slice 9 (.string b') (some (.int .i64 (j : Int))) none none).run Tryd.prog W = .ok (.string b2) W := fun W => by
          rw [run_slice_string_l W 9 b' Tryd.underlying9 .i64 (j : Int) (by omega) (by omega), Int.toNat_natCast, hb', St_drop, hb2]
        have hat := atoi_any b1 ((t.drop k).take j) hb1.symm ((hall.drop k).take j) (by intro e; have := congrArg List.length e; simp at this; omega) (by simp; omega)
        have hPb := Txt.decVal_lt ((hall.drop k).take j)
        have hval := val_chunk t k j (by omega) hjk
        obtain ⟨P, hP⟩ : ∃ P, Txt.decVal ((t.drop k).take j) = P := ⟨_, rfl⟩
        obtain ⟨V, hV⟩ : ∃ V, Txt.decVal (t.take k) = V := ⟨_, rfl⟩
        rw [hP] at hat hPb hval
        rw [hV] at hwm hval
        have hPb2 : P < 1000000000 := by
          refine Nat.lt_of_lt_of_le hPb ?_
          refine Nat.le_trans (Nat.pow_le_pow_right (by omega) (show ((t.drop k).take j).length ≤ 9 by simp; omega)) (by decide)
        have HR := Lib.hid (And.intro hwm (And.intro hnw (And.intro hval (And.intro hat (show b2 = St (t.drop (k + j)) by rw [← hb2, List.drop_drop])))))
        have HRE := Lib.hid (And.intro hrest (And.intro hb2s (show j + b2.size = b'.size by omega)))
        clear hc hall hsg hE htl hb' hwm hnw HI h0 hp hq hj hjk hrest hdl hb1 hb2 hb2s hat hPb hval hP hV
        go_wp2_with fail
        refine (HR.out.2.2.2.1 wo).mono ?_
        rintro e w2 ⟨rfl, hn2⟩
        have HN2 := Lib.hid hn2
        clear hn2
        have hPi : (P : Int) % 4294967296 = (P : Int) := by omega
        go_wp2_with fail
        refine Calls.new1 ?_
        intro W3 hb3 hn3 hz3
        refine (mulMag_any R m d _ 1 1 V 1000000000 W3 ((HR.out.1.new HN2.out).new hn3) (WM.lit1 (d := 1000000000) hb3 (by omega) (by omega)) (by omega) (by omega)).mono ?_
        rintro e w4 ⟨R4, m4, d4, rfl, H4⟩
        have HN3 := Lib.hid hn3
        clear hb3 hn3 hz3
        have hm4 : m4 ≤ 5000 := by
          obtain ⟨hc, hall, hsg, hE, htl⟩ := H0.out
          have hb := val_bound (hall.take (k + j)) (k := c.size) (by simp; omega)
          rw [← HR.out.2.2.1] at hb
          exact Nat.le_trans (H4.out.1.len (k := c.size) (Nat.lt_of_le_of_lt (Nat.le_add_right _ _) hb)) hcs
        go_wp2_with fail
        refine Calls.new1 ?_
        intro W5 hb5 hn5 hz5
        refine (addMag_wd R4 m4 d4 _ 1 1 (V * 1000000000) P W5 (H4.out.1.new hn5).wd (WD.lit1 hb5 (by omega)) (by omega) (by omega)).mono ?_
        rintro e w6 ⟨R6, m6, d6, rfl, H6⟩
        have HN5 := Lib.hid hn5
        clear hb5 hn5 hz5
        go_wp2_with fail
        go_roundw
        case rel =>
          refine ⟨k + j, b2, R6, m6, d6, rfl, rfl, by have := HRE.out.2.2; omega, .inr (by rw [HRE.out.2.1]; exact HRE.out.1), HR.out.2.2.2.2, ?_, ?_⟩
          · have := H6.out.1
            rwa [HR.out.2.2.1] at this
          · exact ((((HR.out.2.1.new HN2.out).new HN3.out).new H4.out.2.2).new HN5.out).new H6.out.2
        case measure =>
          show b2.size < b'.size
          have := HRE.out.2.1
          omega
end Go.Proofs.YtgofjkppeobjfaaDoor

namespace Go.Proofs.YtgofjkppeobjfaaDoor
set_option linter.unusedVariables false
open Go.RowKit Go.Mem Go.Dig
open Go.Lib (decDigits)

/-- The library's table of powers of ten lies as its text lays it. -/
def PowTab (w : World) : Prop := Lib.TabIs Tryd.prog w "internal/strconv.uint64pow10" .u64 Lib.pow10Tab
theorem PowTab.chg {S : Nat → Prop} {w w' : World} (h : PowTab w) (hc : Chg S w w') (hs : ∀ g, Tryd.prog.globalNamed "internal/strconv.uint64pow10" = some g → ¬ S g) : PowTab w' := by
  unfold PowTab Lib.TabIs World.var? at h ⊢
  cases hg : Tryd.prog.globalNamed "internal/strconv.uint64pow10" with
  | none => rw [hg] at h; simp at h
  | some g =>
    rw [hg] at h
    simp only [Option.bind_some] at h ⊢
    cases ho : w.heap[g]? with
    | none => rw [ho] at h; simp at h
    | some o =>
      rw [hc.heap ho (hs g hg)]
      rw [ho] at h
      exact h
theorem PowTab.new {w w' : World} (h : PowTab w) (hc : New w w') : PowTab w' := h.chg hc (fun _ _ h => h)
theorem grow_new (w : World) (k : Nat) (os : Array Obj) : New w (Sort.grow (w.drewN k) os) := by
  refine ⟨rfl, rfl, rfl, by simp [Sort.grow, World.drewN], fun j hj _ => ?_⟩
  simp only [Sort.grow, World.drewN]
  rw [Array.getElem?_append_left hj]

theorem itoa_any (d : Nat) (hd : d < 1000000000) (w : World) (ht : PowTab w) :
    Calls Tryd.prog 55 #[.int .i64 (d : Int)] w fun e w' => e = .returned (.string (St (decDigits d))) ∧ New w w' := by
  refine (Tryd.strconv_Itoa (d : Int) (by omega) (by omega) w ht).mono ?_
  rintro e w' ⟨rfl, k, os, rfl⟩
  refine ⟨?_, grow_new _ _ _⟩
  have : Lib.itoa (d : Int) = decDigits d := by
    unfold Lib.itoa
    rw [if_neg (by omega), Int.toNat_natCast]
  rw [this]
  rfl
theorem repeatL_rep (c : Nat) : Lib.repeatL [48] c = List.replicate c 48 := by
  induction c with
  | zero => rfl
  | succ c ih => rw [Lib.repeatL, ih, List.replicate_succ]; rfl
theorem repeat_any (c : Nat) (hc : c ≤ 9) (w : World) :
    Calls Tryd.prog 56 #[.string ⟨#[48]⟩, .int .i64 (c : Int)] w fun e w' => e = .returned (.string (St (List.replicate c 48))) ∧ New w w' := by
  refine (Tryd.strings_Repeat ⟨#[48]⟩ c w (by omega) (by rw [show (⟨#[48]⟩ : ByteArray).size = 1 by rfl]; omega)).mono ?_
  rintro e w' ⟨rfl, h⟩
  refine ⟨?_, New.of_below h⟩
  rw [show (⟨#[48]⟩ : ByteArray).data.toList = [48] by rfl, repeatL_rep]
  rfl
theorem elemStrs : Elem Tryd.prog 30 9 (.string ⟨#[]⟩) 16 := Elem.mk' Tryd.underlying30 (by kernel_rfl) rfl

/-- The parts of a text, the last first. -/
def joinR (ps : List (List UInt8)) : List UInt8 := ps.reverse.flatten
theorem joinR_snoc (ps : List (List UInt8)) (p : List UInt8) : joinR (ps ++ [p]) = p ++ joinR ps := by simp [joinR]
def StrI (T : List UInt8) (V : Nat) (ps : List (List UInt8)) : Prop := (if V = 0 then joinR ps else decDigits V ++ joinR ps) = T
theorem str_more {T : List UInt8} {V : Nat} {ps : List (List UInt8)} (h : StrI T V ps) (hq : 0 < V / 1000000000) : StrI T (V / 1000000000) (ps ++ [Txt.pad 9 (V % 1000000000)]) := by
  unfold StrI at h ⊢
  rw [if_neg (by omega)] at h ⊢
  have e := Txt.dec_pad 9 (V / 1000000000) (V % 1000000000) (Nat.mod_lt _ (by omega)) hq
  rw [show V / 1000000000 * 10 ^ 9 + V % 1000000000 = V by omega] at e
  rw [← h, e, joinR_snoc, List.append_assoc]
theorem str_last {T : List UInt8} {V : Nat} {ps : List (List UInt8)} (h : StrI T V ps) (h0 : V ≠ 0) (hq : V / 1000000000 = 0) : StrI T 0 (ps ++ [decDigits (V % 1000000000)]) := by
  unfold StrI at h ⊢
  rw [if_neg h0] at h
  rw [if_pos rfl, joinR_snoc, Nat.mod_eq_of_lt (by omega), h]
theorem pad9 {d : Nat} (hd : d < 1000000000) : List.replicate (9 - (decDigits d).length) 48 ++ decDigits d = Txt.pad 9 d := (Txt.pad_dec 9 d (by omega) (by omega)).symm
def strs (ps : List (List UInt8)) : List Value := ps.map (fun p => Value.string (St p))
theorem strs_one (ps : List (List UInt8)) : ∀ u ∈ strs ps, u.oneCell' = true := by
  intro u hu
  obtain ⟨_, _, rfl⟩ := List.mem_map.1 hu
  rfl
theorem strs_len (ps : List (List UInt8)) : (strs ps).length = ps.length := by simp [strs]

theorem StrI.len {T : List UInt8} {V : Nat} {ps : List (List UInt8)} (h : StrI T V ps) (hl : ps.length ≤ (joinR ps).length) : ps.length ≤ T.length := by
  unfold StrI at h
  rw [← h]
  split
  · exact hl
  · rw [List.length_append]; omega
theorem dec_words {Z n : Nat} (h : Z < 4294967296 ^ n) (hn : 1 ≤ n) : (decDigits Z).length ≤ 10 * n := by
  refine Txt.dec_len_le (by omega) (Nat.lt_of_lt_of_le h ?_)
  rw [Nat.pow_mul]
  exact Nat.pow_le_pow_left (by decide) n
/-- What the first loop of String holds. -/
def S1 (w : World) (T : List UInt8) (R : Option Addr) (m d : Nat) (PA : Option Addr) (k pc V : Nat) (ps : List (List UInt8)) (wr : World) : Prop :=
  WM wr R m d V ∧ StrI T V ps ∧ ps.length = k ∧ k ≤ (joinR ps).length ∧ wr.ownsRow w.heap.size 9 1 (.slice PA k pc) k (strs ps) ∧ New w wr
theorem chg_below {B : Nat} {w w' : World} (h : Below B w w') : Chg (fun j => B ≤ j) w w' := ⟨h.os, h.tape, h.output, h.size, fun k _ hn => h.block k (by omega)⟩
/-- What the second loop of String holds. -/
def S2 (wo : World) (gb : Nat) (sgn : List UInt8) (ps : List (List UInt8)) (k : Nat) (wr : World) : Prop :=
  Lib.IsBuilder 88 5 gb gb (Lib.byteCells (sgn ++ (ps.drop k).reverse.flatten)) wr ∧ Chg (fun j => gb ≤ j) wo wr
theorem flat_step {ps : List (List UInt8)} {k : Nat} {p : List UInt8} (h : ps[k]? = some p) : (ps.drop k).reverse.flatten = (ps.drop (k + 1)).reverse.flatten ++ p := by
  obtain ⟨hk, hp⟩ := List.getElem?_eq_some_iff.1 h
  rw [List.drop_eq_getElem_cons hk, hp]
  simp
theorem flat_le (ps : List (List UInt8)) (k : Nat) : (ps.drop k).reverse.flatten.length ≤ (joinR ps).length := by
  unfold joinR
  rw [← List.take_append_drop k ps, List.reverse_append, List.flatten_append, List.length_append]
  simp
theorem strCells_St (p : List UInt8) : Lib.strCells (St p) = Lib.byteCells p := by
  unfold Lib.strCells Lib.byteCells
  rw [St_dat]
theorem strs_at {ps : List (List UInt8)} {k : Nat} {u : Value} (h : (strs ps)[k]? = some u) : ∃ p, ps[k]? = some p ∧ u = .string (St p) := by
  simp only [strs, List.getElem?_map, Option.map_eq_some_iff] at h
  obtain ⟨c, h1, h2⟩ := h
  exact ⟨c, h1, h2.symm⟩
theorem S1.next {w2 wo w3 w6 w7 : World} {T : List UInt8} {R : Option Addr} {m d : Nat} {PA : Option Addr} {k pc V : Nat} {ps : List (List UInt8)} {g3 T1 m1 V1 c7 : Nat} {A7 : Option Addr} {p : List UInt8} {o : Obj} (h : S1 w2 T R m d PA k pc V ps wo) (hg : wo.heap.size ≤ g3) (hn3 : New wo w3) (hwm : WM w3 (some ⟨g3, 0, none⟩) T1 m1 V1) (hn6 : New w3 w6)
    (hown : w7.ownsRow w2.heap.size 9 1 (.slice A7 (k + 1) c7) (k + 1) (strs ps ++ strs [p])) (hgr : (w6.alloc o).grownBy w7 (blk PA)) (hst : StrI T V1 (ps ++ [p])) (hp : 1 ≤ p.length) : S1 w2 T (some ⟨g3, 0, none⟩) T1 m1 A7 (k + 1) c7 V1 (ps ++ [p]) w7 := by
  obtain ⟨h1, h2, h3, h4, h5, h6⟩ := h
  have hch : Chg (fun j => blk PA = some j) w6 w7 := ((Chg.refl _ w6).alloc o).grown hgr (fun j hj _ => hj)
  refine ⟨(hwm.new hn6).chg hch (fun j hj e => ?_), hst, by simp [h3], by rw [joinR_snoc, List.length_append]; omega, by rw [show strs (ps ++ [p]) = strs ps ++ strs [p] by simp [strs]]; exact hown, ?_⟩
  · have := (own_blk_le h5 e).2
    simp [blk] at hj
    omega
  · exact ((h6.new hn3).new hn6).trans hch (fun j hj e => by have := (own_blk_le h5 e).1; omega)
theorem rd_str {w : World} {b : ByteArray} {l : List UInt8} {e : TypeId} {g : Nat} (hg : g = w.heap.size) (hb : b = St l) : Rd (w.alloc (.cells #[.string b] e)) (some ⟨g, 0, none⟩) 1 (strs [l]) := by
  subst hg hb; exact Rd.lit (strs [l]) rfl

set_option maxHeartbeats 4000000 in
set_option maxRecDepth 100000 in
theorem wstring_any (v : Value) (z : Int) (w : World) (hv : WI w v z) (hpt : PowTab w) (hz : z.natAbs < 2 ^ 900000) :
    Calls Tryd.prog 18 #[v] w fun e w' => e = .returned (.string (St (Txt.text z))) ∧ New w w' := by
  obtain ⟨s, A, n, c, rfl, hs, hm⟩ := hv
  have hn := bz_wlen hm hz
  clear hz
  obtain ⟨T, hT⟩ : ∃ T, Txt.text z = T := ⟨_, rfl⟩
  rw [hT]
  by_cases h0 : n = 0
  · subst h0
    have hz0 : z.natAbs = 0 := hm.pos.1 rfl
    obtain rfl : [48] = T := by
      rw [← hT]; unfold Txt.text; rw [if_neg (by omega), hz0, Txt.dec_small (by omega)]; rfl
    clear hm hT hz0 hs hpt
    go_enter Tryd.func18, Tryd.ntmps18
    go_wp2
    go_ret
    exact ⟨rfl, (Chg.refl _ w).alloc _⟩
  · have hn0 : ((n : Int) == 0) = false := by simp; omega
    obtain ⟨Z, hZ⟩ : ∃ Z, z.natAbs = Z := ⟨_, rfl⟩
    rw [hZ] at hm
    have hZ1 : Z ≠ 0 := fun h => h0 (hm.pos.2 h)
    obtain ⟨la, hr, hnc, hc, hN⟩ := hm
    have H0 := Lib.hid (And.intro hr (And.intro hN (And.intro hs (And.intro hT (And.intro hZ hpt)))))
    have hbW := fun (W : World) => Rd.new (w := w) (w' := W) hr
    clear hr hN hs hT hZ hpt hbW
    go_enter Tryd.func18, Tryd.ntmps18
    go_upto_region 3 with fail
    refine Code.new1 ?_
    intro W hb1 hnW hzW
    have hk1 := hb1.cell 1 (u := .slice A n c) rfl
    have HW := Lib.hid (And.intro hb1 hnW)
    clear hb1 hnW hzW
    go_wp2_with (first
      | (at_make; refine wpList_mk elemU32 rfl rfl _ _ rfl (n := n) rfl rfl (by omega) (by omega) (by omega) (by simp only [maxLen]; omega) ?_; intro w1 hown1 hg1 hz1; have HMK := Lib.hid (And.intro hown1 (And.intro hg1 hz1)); have hk2 := hg1.cell hk1 (fun h => h); clear hown1 hg1 hz1)
      | ((with_reducible refine wpList_cp elemU32 rfl (.tmp 17) (.tmp 19) rfl rfl HMK.out.1 rfl (Nat.le_refl _) ((H0.out.1.new HW.out.2).new HMK.out.2.1) (nv_one _) ?_); intro w2 hown2 hch2; have HCP := Lib.hid (And.intro hown2 hch2); clear hown2 hch2))
    have hnw2 : New w w2 := Chg.owned (HW.out.2.new HMK.out.2.1) HCP.out.2 (fun k e => by have := HW.out.2.size; omega)
    have hb2 : Blk w2 w.heap.size 33 #[.bool s, .slice A n c] := (HW.out.1.chg HMK.out.2.1 (fun h => h)).chg HCP.out.2 (by have := HW.out.1.lt; omega)
    have hZlt : Z < 4294967296 ^ n := H0.out.2.1.lt (by omega) (by have := H0.out.1.len; rw [nv_length] at this; omega)
    obtain ⟨TD, hTD⟩ : ∃ x, decDigits Z = x := ⟨_, rfl⟩
    have hTl : TD.length ≤ 9000000 := by rw [← hTD]; have := dec_words hZlt (by omega); omega
    have hS : S1 w2 TD (some ⟨W.heap.size, 0, none⟩) n n none 0 0 Z [] w2 := by
      refine ⟨⟨la, ?_, Nat.le_refl _, by omega, H0.out.2.1⟩, ?_, rfl, Nat.zero_le _, World.ownsRow_nil w2 w2.heap.size _ _, Chg.refl _ _⟩
      · have := Rd.of_own HCP.out.1
        rwa [List.drop_eq_nil_of_le (by simp), List.append_nil] at this
      · unfold StrI; rw [if_neg hZ1, hTD]; simp [joinR]
    obtain ⟨gr, hgr⟩ : ∃ x, W.heap.size = x := ⟨_, rfl⟩
    rw [hgr] at hS
    simp only [hgr]
    have H2 := Lib.hid (And.intro hS (And.intro hnw2 (And.intro hb2 hTD)))
    clear hnw2 hb2 hZlt hTD hS hgr HCP HMK hk1 hk2
    go_loopw [3, 4, 5, 6] (fun s3 s4 _ _ wr => ∃ (R : Option Addr) (m d : Nat) (PA : Option Addr) (k pc V : Nat) (ps : List (List UInt8)), s3 = .slice R m d ∧ s4 = .slice PA k pc ∧ m ≤ 900000 ∧ Hid (S1 w2 TD R m d PA k pc V ps wr)) (fun s3 s4 _ _ _ => match s3, s4 with | .slice _ m _, .slice _ k _ => if m = 0 then 0 else 9000001 - k | _, _ => 0)
    case atStart => exact ⟨_, n, n, none, 0, 0, Z, [], rfl, rfl, hn, H2.out.1⟩
    case round =>
      obtain ⟨R, m, d, PA, k, pc, V, ps, rfl, rfl, hm, HS⟩ := hrel
      obtain ⟨wo, rfl⟩ : ∃ wo : World, wo = wr := ⟨_, rfl⟩
      obtain ⟨hwm, hst, hpl, hpj, hown, hnw⟩ := HS.out
      have hkT : k ≤ 9000000 := by have := hst.len (by omega); omega
      by_cases hm0 : m = 0
      · subst hm0
        have hV0 : V = 0 := hwm.pos.1 rfl
        subst hV0
        obtain ⟨gb, hgb⟩ : ∃ x, wo.heap.size = x := ⟨_, rfl⟩
        have hbo := H2.out.2.2.1.chg hnw (fun h => h)
        have hk0 := ((Chg.refl (fun _ => False) wo).alloc (.cells #[.pointer none, .slice none 0 0] 88)).cell (hbo.cell 0 (u := .bool s) rfl) (fun h => h)
        have hjT : joinR ps = TD := by unfold StrI at hst; rw [if_pos rfl] at hst; exact hst
        have hrd : Rd wo PA k (strs ps) := Rd.of_own hown
        have hblk : ∀ j, blk PA = some j → j < gb := fun j hj => by have := (own_blk_le hown hj).2; omega
        have hneww : New w wo := H2.out.2.1.new hnw
        have hlen : ∀ j, (ps.drop j).reverse.flatten.length ≤ 9000000 := fun j => Nat.le_trans (flat_le ps j) (by rw [hjT]; exact hTl)
        have HP := Lib.hid (And.intro hjT (And.intro hrd (And.intro hblk (And.intro hneww (And.intro hlen (And.intro hpl hgb))))))
        clear hwm hst hpj hown hnw HS hbo hjT hrd hblk hneww hlen hpl
        have fin : ∀ (sgn : List UInt8), sgn.length ≤ 1 → sgn ++ TD = T → ∀ (wr : World), S2 wo gb sgn ps 0 wr → Calls Tryd.prog 59 #[.pointer (some ⟨gb, 0, none⟩)] wr fun e w' => e = .returned (.string (St T)) ∧ Hid (New w w') := fun sgn _ hT wr h => by
          obtain ⟨h1, h2⟩ := h
          obtain ⟨hjT, hrd, hblk, hneww, hlen, hpl, hgb⟩ := HP.out
          rw [List.drop_zero, show ps.reverse.flatten = joinR ps by rfl, hjT, hT] at h1
          refine (Tryd.Builder_String_any gb gb T wr h1 (by have := h2.size; omega)).mono ?_
          rintro e w' ⟨rfl, hb⟩
          exact ⟨rfl, hneww.trans (h2.trans (chg_below hb) (fun _ _ h => h)) (fun j hj e => by have := hneww.size; omega)⟩
        have stp : ∀ (sgn : List UInt8), sgn.length ≤ 1 → ∀ (i : Nat) (p : List UInt8) (wr : World), ps[i]? = some p → S2 wo gb sgn ps (i + 1) wr → Calls Tryd.prog 58 #[.pointer (some ⟨gb, 0, none⟩), .string (St p)] wr fun e w' => (∃ v, e = .returned v) ∧ Hid (S2 wo gb sgn ps i w') := fun sgn hs1 i p wr hp h => by
          obtain ⟨h1, h2⟩ := h
          obtain ⟨hjT, hrd, hblk, hneww, hlen, hpl, hgb⟩ := HP.out
          have hl := hlen i
          rw [flat_step hp, List.length_append] at hl
          refine (Tryd.Builder_WriteString gb gb _ (St p) wr h1 (by simp only [Lib.byteCells, List.length_map, List.length_append, St_size]; omega) (by have := h2.size; omega)).mono ?_
          rintro e w' ⟨rfl, hb, hbel⟩
          refine ⟨⟨_, rfl⟩, ?_, h2.trans (chg_below hbel) (fun _ _ h => h)⟩
          rw [strCells_St, ← Lib.byteCells_append, List.append_assoc, ← flat_step hp] at hb
          exact .inr hb
        have HF := Lib.hid (And.intro fin stp)
        clear fin stp
        obtain ⟨hr, hN, hs, hT, hZ, hpt⟩ := H0.out
        have hTD := H2.out.2.2.2
        have hstart : Lib.IsBuilder 88 5 gb gb [] (wo.alloc (.cells #[.pointer none, .slice none 0 0] 88)) := by rw [← hgb]; exact Lib.fresh_isBuilder _ _ _
        cases s
        · have hsgn : [] ++ TD = T := by
            rw [← hT, ← hTD, ← hZ]; unfold Txt.text; rw [if_neg (by simpa using hs.symm)]; rfl
          have HS := Lib.hid (And.intro hsgn hstart)
          clear hr hN hs hT hZ hpt hTD hsgn hstart
          have HST : Hid (S2 wo gb [] ps k (wo.alloc (.cells #[.pointer none, .slice none 0 0] 88))) := by
            refine ⟨?_, (Chg.refl _ wo).alloc _⟩
            rw [List.drop_eq_nil_of_le (by have := HP.out.2.2.2.2.2.1; omega)]
            exact HS.out.2
          go_wp2_with fail
          clear hk0
          go_loopw [8] (fun i wr => ∃ j : Nat, i = .int .i64 ((j : Int) - 1) ∧ j ≤ k ∧ Hid (S2 wo gb [] ps j wr)) (fun i _ => (intOf i + 1).toNat)
          case atStart => exact ⟨k, rfl, Nat.le_refl _, HST⟩
          case round =>
            obtain ⟨j, rfl, hjk, HI⟩ := hrel
            obtain ⟨wq, rfl⟩ : ∃ wq : World, wq = wr := ⟨_, rfl⟩
            by_cases hj0 : j = 0
            · subst hj0
              rw [show (((0 : Nat) : Int) - 1) = -1 by rfl]
              go_wp2_with fail
              refine (HF.out.1 [] (by simp) HS.out.1 wq HI.out).mono ?_
              rintro e w9 ⟨rfl, H9⟩
              go_wp2
              go_ret
              exact ⟨rfl, H9.out⟩
            · obtain ⟨i, rfl⟩ : ∃ i, j = i + 1 := ⟨j - 1, by omega⟩
              rw [show (((i + 1 : Nat) : Int) - 1) = (i : Int) by omega]
              obtain ⟨hjT, hrd, hblk, hneww, hlen, hpl, hgb'⟩ := HP.out
              obtain ⟨ad, u, rfl, hu, hcu⟩ := (hrd.chg HI.out.2 (fun q hq _ e => by have := hblk q hq; omega)).at_ (show i < k by omega)
              obtain ⟨pp, hpp, rfl⟩ := strs_at hu
              have hst := HF.out.2 [] (by simp) i pp wq hpp HI.out
              have HST2 := Lib.hid hst
              clear hjT hrd hblk hneww hlen hpl hgb' hu hpp hst hj0
              go_wp2_with fail
              refine HST2.out.mono ?_
              rintro e w9 ⟨⟨ve, rfl⟩, H9⟩
              go_wp2
              go_roundw
              case rel => exact ⟨i, rfl, by omega, H9⟩
              case measure => simp [intOf]
        · have hsgn : [45] ++ TD = T := by
            rw [← hT, ← hTD, ← hZ]; unfold Txt.text; rw [if_pos (by simpa using hs.symm)]; rfl
          have HS := Lib.hid (And.intro hsgn hstart)
          clear hr hN hs hT hZ hpt hTD hsgn hstart
          go_wp2_with fail
          refine (Tryd.Builder_WriteByte gb gb [] 45 _ HS.out.2 (by simp) (by have := hgb; simp; omega)).mono ?_
          rintro e w8 ⟨rfl, hb8, hbel8⟩
          have HST : Hid (S2 wo gb [45] ps k w8) := by
            refine ⟨.inr ?_, ((Chg.refl _ wo).alloc _).trans (chg_below hbel8) (fun _ _ h => h)⟩
            rw [List.drop_eq_nil_of_le (by have := HP.out.2.2.2.2.2.1; omega)]
            exact hb8
          clear hb8 hbel8
          go_wp2_with fail
          clear hk0
          go_loopw [8] (fun i wr => ∃ j : Nat, i = .int .i64 ((j : Int) - 1) ∧ j ≤ k ∧ Hid (S2 wo gb [45] ps j wr)) (fun i _ => (intOf i + 1).toNat)
          case atStart => exact ⟨k, rfl, Nat.le_refl _, HST⟩
          case round =>
            obtain ⟨j, rfl, hjk, HI⟩ := hrel
            obtain ⟨wq, rfl⟩ : ∃ wq : World, wq = wr := ⟨_, rfl⟩
            by_cases hj0 : j = 0
            · subst hj0
              rw [show (((0 : Nat) : Int) - 1) = -1 by rfl]
              go_wp2_with fail
              refine (HF.out.1 [45] (by simp) HS.out.1 wq HI.out).mono ?_
              rintro e w9 ⟨rfl, H9⟩
              go_wp2
              go_ret
              exact ⟨rfl, H9.out⟩
            · obtain ⟨i, rfl⟩ : ∃ i, j = i + 1 := ⟨j - 1, by omega⟩
              rw [show (((i + 1 : Nat) : Int) - 1) = (i : Int) by omega]
              obtain ⟨hjT, hrd, hblk, hneww, hlen, hpl, hgb'⟩ := HP.out
              obtain ⟨ad, u, rfl, hu, hcu⟩ := (hrd.chg HI.out.2 (fun q hq _ e => by have := hblk q hq; omega)).at_ (show i < k by omega)
              obtain ⟨pp, hpp, rfl⟩ := strs_at hu
              have hst := HF.out.2 [45] (by simp) i pp wq hpp HI.out
              have HST2 := Lib.hid hst
              clear hjT hrd hblk hneww hlen hpl hgb' hu hpp hst hj0
              go_wp2_with fail
              refine HST2.out.mono ?_
              rintro e w9 ⟨⟨ve, rfl⟩, H9⟩
              go_wp2
              go_roundw
              case rel => exact ⟨i, rfl, by omega, H9⟩
              case measure => simp [intOf]
      · have hmp : (0 : Int) < (m : Int) := by omega
        have hmp' : 0 < m := by omega
        have hV0 : V ≠ 0 := fun h => hm0 (hwm.pos.2 h)
        have hdw := divWord_any R m d V 1000000000 wo hwm (by omega) (by omega) (by omega)
        obtain ⟨lo, hlo⟩ : ∃ x, V % 1000000000 = x := ⟨_, rfl⟩
        obtain ⟨hi, hhi⟩ : ∃ x, V / 1000000000 = x := ⟨_, rfl⟩
        rw [hlo, hhi] at hdw
        have hlob : lo < 1000000000 := by omega
        have hll := Txt.dec_len_le (u := lo) (k := 9) (by omega) (by omega)
        obtain ⟨tx, htx⟩ : ∃ x, St (decDigits lo) = x := ⟨_, rfl⟩
        have htxs : tx.size = (decDigits lo).length := by rw [← htx, St_size]
        have htx9 : tx.size ≤ 9 := by omega
        have hit := fun W h => itoa_any lo hlob W h
        rw [htx] at hit
        have HD := Lib.hid (And.intro hdw (And.intro hit (And.intro htx (And.intro htxs (And.intro hlo hhi)))))
        have HX := Lib.hid (And.intro hwm (And.intro hst (And.intro hpl (And.intro hpj (And.intro hown hnw)))))
        clear hdw hit htx htxs hlo hhi hwm hst hpl hpj hown hnw hll
        go_wp2_with fail
        refine HD.out.1.mono ?_
        rintro e w3 ⟨l3, g3, rfl, H3⟩
        go_wp2_with fail
        refine (trim_wm _ _ _ l3 w3 H3.out.1 H3.out.2.1 (Nat.le_refl _) (by omega)).mono ?_
        rintro e w4 ⟨T1, rfl, HT1, rfl⟩
        go_wp2_with fail
        refine (HD.out.2.1 w3 (((H0.out.2.2.2.2.2.new H2.out.2.1).new HX.out.2.2.2.2.2).new H3.out.2.2.2.2)).mono ?_
        rintro e w5 ⟨rfl, hn5⟩
        have HN5 := Lib.hid hn5
        have hT1 := HT1.out.1.pos
        rw [H3.out.2.2.1] at hT1
        clear hn5
        by_cases hq : hi = 0
        · obtain rfl : T1 = 0 := hT1.2 hq
          have HQ := Lib.hid hq
          clear hT1 hq
          go_wp2_with (at_builtin; refine wpList_app elemStrs rfl _ _ rfl rfl (own_chg (own_chg (own_chg HX.out.2.2.2.2.1 H3.out.2.2.2.2 (fun _ _ h => h)) HN5.out (fun _ _ h => h)) ((Chg.refl (fun _ => False) w5).alloc (.cells #[.string tx] 9)) (fun _ _ h => h)) rfl (rd_str rfl HD.out.2.2.1.symm) (strs_one _) (by simp only [maxLen]; omega) (by omega) (by have := HX.out.2.2.2.2.2.size; have := H3.out.2.2.2.2.size; have := HN5.out.size; simp; omega) ?_; intro A7 c7 w7 hown7 hg7 hat7; have HA7 := Lib.hid (And.intro hown7 (And.intro hg7 hat7)); clear hown7 hg7 hat7)
          go_roundw
          case rel =>
            refine ⟨_, 0, m, A7, k + 1, c7, hi, ps ++ [decDigits lo], rfl, rfl, by omega, ?_⟩
            have hst := str_last HX.out.2.1 hV0 (by have := HD.out.2.2.2.2.2; have := HQ.out; omega)
            rw [HD.out.2.2.2.2.1, ← HQ.out] at hst
            have hwm3 := HT1.out.1
            rw [H3.out.2.2.1] at hwm3
            exact S1.next HS.out H3.out.2.2.2.1 H3.out.2.2.2.2 hwm3 HN5.out HA7.out.1 HA7.out.2.1 hst (Txt.dec_len_pos _)
          case measure =>
            show (if 0 = 0 then 0 else 9000001 - (k + 1)) < (if m = 0 then 0 else 9000001 - k)
            rw [if_pos rfl, if_neg (by omega)]
            omega
        · have hT1p : (0 : Int) < (T1 : Int) := by
            rcases Nat.eq_zero_or_pos T1 with h | h
            · exact absurd (hT1.1 h) hq
            · omega
          have hT1p' : 0 < T1 := by omega
          have HQ := Lib.hid hq
          clear hT1 hq
          obtain ⟨cn, hcn⟩ : ∃ x, 9 - tx.size = x := ⟨_, rfl⟩
          have hcni : (9 : Int) - ((tx.size : Nat) : Int) = (cn : Int) := by omega
          have hcnb : cn ≤ 9 := by omega
          go_wp2_with fail
          refine (repeat_any cn hcnb w5).mono ?_
          rintro e w6 ⟨rfl, hn6⟩
          obtain ⟨zs, hzs⟩ : ∃ x, St (List.replicate cn 48) = x := ⟨_, rfl⟩
          rw [hzs]
          have hzss : zs.size = cn := by rw [← hzs, St_size]; simp
          have hsz : ¬ 9223372036854775807 < zs.size + tx.size := by omega
          have hcat : zs ++ tx = St (Txt.pad 9 lo) := by
            rw [← hzs, ← HD.out.2.2.1, St_app, ← hcn, HD.out.2.2.2.1, pad9 hlob]
          have H6 := Lib.hid (And.intro hn6 hcat)
          clear hn6 hzs hcn hcat hzss
          go_wp2_with (at_builtin; refine wpList_app elemStrs rfl _ _ rfl rfl (own_chg (own_chg (own_chg (own_chg HX.out.2.2.2.2.1 H3.out.2.2.2.2 (fun _ _ h => h)) HN5.out (fun _ _ h => h)) H6.out.1 (fun _ _ h => h)) ((Chg.refl (fun _ => False) w6).alloc (.cells #[.string (zs ++ tx)] 9)) (fun _ _ h => h)) rfl (rd_str rfl H6.out.2) (strs_one _) (by simp only [maxLen]; omega) (by omega) (by have := HX.out.2.2.2.2.2.size; have := H3.out.2.2.2.2.size; have := HN5.out.size; have := H6.out.1.size; simp; omega) ?_; intro A7 c7 w7 hown7 hg7 hat7; have HA7 := Lib.hid (And.intro hown7 (And.intro hg7 hat7)); clear hown7 hg7 hat7)
          go_roundw
          case rel =>
            refine ⟨_, T1, m, A7, k + 1, c7, hi, ps ++ [Txt.pad 9 lo], rfl, rfl, by have := HT1.out.2; omega, ?_⟩
            have hst := str_more HX.out.2.1 (by have := HD.out.2.2.2.2.2; have := HQ.out; omega)
            rw [HD.out.2.2.2.2.1, HD.out.2.2.2.2.2] at hst
            have hwm3 := HT1.out.1
            rw [H3.out.2.2.1] at hwm3
            exact S1.next HS.out H3.out.2.2.2.1 H3.out.2.2.2.2 hwm3 (HN5.out.new H6.out.1) HA7.out.1 HA7.out.2.1 hst (by rw [Txt.pad_len]; omega)
          case measure =>
            show (if T1 = 0 then 0 else 9000001 - (k + 1)) < (if m = 0 then 0 else 9000001 - k)
            rw [if_neg (by omega), if_neg (by omega)]
            omega
end Go.Proofs.YtgofjkppeobjfaaDoor

namespace Go.Proofs.YtgofjkppeobjfaaDoor
set_option linter.unusedVariables false
open Go.RowKit Go.Mem Go.Dig
open Go.Lib (decDigits)

def tpow (k : Nat) : Nat := 10 ^ k
/-- Texts of what is below this have at most 4934 bytes. -/
def dmax : Nat := tpow 4933
theorem pow_93 (k : Nat) : 2 ^ (93 * k) ≤ tpow (28 * k) := by
  unfold tpow
  rw [Nat.pow_mul, Nat.pow_mul]
  exact Nat.pow_le_pow_left (by decide) k
theorem tpow_add (a b : Nat) : tpow (a + b) = tpow a * tpow b := Nat.pow_add 10 a b
theorem powN_two (k m : Nat) (h : 32 * k = m) : powN k = 2 ^ m := by
  subst h
  unfold powN
  rw [Nat.pow_mul]
theorem pow_split (a b m : Nat) (h : a + b = m) : 2 ^ m = 2 ^ a * 2 ^ b := by subst h; exact Nat.pow_add 2 a b
theorem tpow_split (a b m : Nat) (h : a + b = m) : tpow m = tpow a * tpow b := by subst h; exact tpow_add a b
theorem top_gen (K J a m j : Nat) (h1 : 32 * K = m) (h2 : 93 * j + 16 = m) (h3 : 28 * j + 5 = J) : powN K + 10000 ≤ tpow J := by
  rw [powN_two K m h1, pow_split (93 * j) 16 m h2, tpow_split (28 * j) 5 J h3]
  have h := pow_93 j
  have hp : 1 ≤ 2 ^ (93 * j) := Nat.one_le_two_pow
  have e : tpow 5 = 100000 := rfl
  have e2 : (2 : Nat) ^ 16 = 65536 := rfl
  rw [e, e2]
  generalize 2 ^ (93 * j) = Y at *
  generalize tpow (28 * j) = X at *
  omega
theorem top_dmax : topN + 10000 ≤ dmax := top_gen 512 4933 0 16384 176 (by decide) (by decide) (by decide)
theorem text_short' {z : Int} {k : Nat} (h : z.natAbs < tpow k) (hk : 1 ≤ k) : (Txt.text z).length ≤ k + 1 := Txt.text_len hk h
theorem text_short {z : Int} (h : z.natAbs < dmax) : (Txt.text z).length ≤ 5000 := Nat.le_trans (text_short' (k := 4933) h (by decide)) (by decide)
theorem tpow_le (k m : Nat) (h : 4 * k ≤ m) : tpow k ≤ 2 ^ m := by
  unfold tpow
  refine Nat.le_trans (Nat.pow_le_pow_left (show 10 ≤ 2 ^ 4 by decide) k) ?_
  rw [← Nat.pow_mul]
  exact Nat.pow_le_pow_right (by omega) h
theorem dmax_pow : dmax ≤ 2 ^ 900000 := tpow_le 4933 900000 (by decide)
theorem dmax_pow' : dmax ≤ 2 ^ 1000000 := tpow_le 4933 1000000 (by decide)

/-- Parse of the text of an integer. -/
theorem wparse_text (z : Int) (hz : z.natAbs < dmax) (w : World) :
    Calls Tryd.prog 15 #[.string (St (Txt.text z))] w fun e w' => ∃ s A n c, e = .returned (.tuple #[.agg #[.bool s, .slice A n c], .int .i64 (rgE z)]) ∧ Hid (WI w' (.agg #[.bool s, .slice A n c]) (rg z) ∧ New w w') :=
  wparse_ok _ _ rfl (by rw [St_size]; exact text_short hz) z (Txt.reads_text z) w

set_option maxRecDepth 100000 in
set_option maxHeartbeats 1000000 in
theorem wider_any (v : Value) (z : Int) (w : World) (hv : RN w v z) (hz : z.natAbs < dmax) (E : Bool) (hE : (rgE z == 0) = E) :
    Calls Tryd.prog 24 #[v] w fun e w' => ∃ s A n c, e = .returned (.tuple #[.agg #[.bool s, .slice A n c], .bool E]) ∧ Hid (WI w' (.agg #[.bool s, .slice A n c]) (rg z) ∧ New w w') := by
  obtain ⟨s, A, n, c, rfl, hs, hm⟩ := hv
  have htx := fun W hn => rtext_any (.agg #[.bool s, .slice A n c]) z W (RN.new ⟨s, A, n, c, rfl, hs, hm⟩ hn) (Nat.lt_of_lt_of_le hz dmax_pow')
  have hpa := fun W => wparse_text z hz W
  obtain ⟨b, hb⟩ : ∃ b, St (Txt.text z) = b := ⟨_, rfl⟩
  rw [hb] at htx hpa
  obtain ⟨er, her⟩ : ∃ x, rgE z = x := ⟨_, rfl⟩
  rw [her] at hpa hE
  have HC := Lib.hid (And.intro htx hpa)
  have HE := Lib.hid hE
  clear htx hpa hs hm hb her hE hz
  go_enter Tryd.func24, Tryd.ntmps24
  go_wp2_with fail
  refine Calls.new2 ?_
  intro W hb1 hb2 hnW hzW
  refine (HC.out.1 W hnW).mono ?_
  rintro e w1 ⟨rfl, hn1⟩
  have hc2 := hb2.chg hn1 (fun h => h)
  have H1 := Lib.hid (And.intro hc2 (hnW.new hn1))
  clear hb1 hb2 hnW hzW hn1 hc2
  go_wp2_with fail
  refine (HC.out.2 w1).mono ?_
  rintro e w2 ⟨s2, A2, n2, c2, rfl, H2⟩
  have hn3 : New w2 (w2.alloc (.cells #[.bool s2, .slice A2 n2 c2] 33)) := (Chg.refl _ _).alloc _
  have hk2 := (H1.out.1.chg H2.out.2 (fun h => h)).chg hn3 (fun h => h)
  have g0 := hk2.cell 0 rfl
  have g1 := hk2.cell 1 rfl
  have f0 := hk2.frozen 0
  have f1 := hk2.frozen 1
  have H3 := Lib.hid (And.intro hk2 hn3)
  clear hn3 hk2
  go_wp2
  obtain ⟨hk2, hn3⟩ := H3.out
  refine bodyPost_ret (res_ct rfl _ rfl (aggInt.load (hk2.set2 _ _)) rfl) rfl ⟨s2, A2, n2, c2, ?_, (H2.out.1.new hn3).store hk2 (noInt_two _ _ _ _) (Chg.at2 _ _ _ _), ?_⟩
  · rw [← HE.out]; rfl
  · exact Chg.owned ((H1.out.2.new H2.out.2).new hn3) (Chg.at2 _ _ _ _) (fun k e => by omega)

theorem eq_texts {x a : Int} {b1 b2 : ByteArray} (h1 : St (Txt.text x) = b1) (h2 : St (Txt.text a) = b2) : (b1.toList == b2.toList) = decide (x = a) := by
  rw [Lib.toList_data, Lib.toList_data, ← h1, ← h2, St_dat, St_dat, Bool.eq_iff_iff]
  simp only [beq_iff_eq, decide_eq_true_eq]
  exact ⟨Txt.text_inj, fun h => by rw [h]⟩

set_option maxRecDepth 100000 in
set_option maxHeartbeats 2000000 in
theorem equal_any (v v' : Value) (x a : Int) (w : World) (hx : WI w v x) (ha : RN w v' a) (hpt : PowTab w) (hxb : x.natAbs < dmax) (hab : a.natAbs < dmax) (E : Bool) (hE : decide (x = a) = E) :
    Calls Tryd.prog 17 #[v, v'] w fun e w' => e = .returned (.bool E) ∧ Hid (New w w') := by
  obtain ⟨s, A, n, c, rfl, hs, hm⟩ := hx
  obtain ⟨s', A', n', c', rfl, hs', hm'⟩ := ha
  have hst := fun W hn => wstring_any (.agg #[.bool s, .slice A n c]) x W (WI.new ⟨s, A, n, c, rfl, hs, hm⟩ hn) (hpt.new hn) (Nat.lt_of_lt_of_le hxb dmax_pow)
  have htx := fun W hn => rtext_any (.agg #[.bool s', .slice A' n' c']) a W (RN.new ⟨s', A', n', c', rfl, hs', hm'⟩ hn) (Nat.lt_of_lt_of_le hab dmax_pow')
  obtain ⟨b1, hb1⟩ : ∃ b, St (Txt.text x) = b := ⟨_, rfl⟩
  obtain ⟨b2, hb2⟩ : ∃ b, St (Txt.text a) = b := ⟨_, rfl⟩
  have heq := eq_texts hb1 hb2
  rw [hE] at heq
  rw [hb1] at hst
  rw [hb2] at htx
  have HC := Lib.hid (And.intro hst htx)
  clear hst htx hs hm hs' hm' hb1 hb2 hE hxb hab hpt
  go_enter Tryd.func17, Tryd.ntmps17
  go_wp2_with fail
  refine Code.new2 ?_
  intro W hb1 hb2 hnW hzW
  have hc10 := hb1.cell 0 (u := .bool s) rfl
  have hc11 := hb1.cell 1 (u := .slice A n c) rfl
  have hc20 := hb2.cell 0 (u := .bool s') rfl
  have hc21 := hb2.cell 1 (u := .slice A' n' c') rfl
  have HW := Lib.hid hnW
  clear hb1 hb2 hnW hzW
  go_region_held3 (fun w' => w'.cell? ⟨w.heap.size, 0, none⟩ = some (.bool s) ∧ w'.cell? ⟨w.heap.size, 1, none⟩ = some (.slice A n c) ∧ w'.cell? ⟨w.heap.size + 1, 0, none⟩ = some (.bool s') ∧ w'.cell? ⟨w.heap.size + 1, 1, none⟩ = some (.slice A' n' c')) (first | exact ⟨by assumption, by assumption, by assumption, by assumption⟩)
    (first
      | (go_at_call 18; refine (HC.out.1 _ ?_).mono ?_; exact HW.out.drew; rintro e w5 ⟨rfl, hn5⟩; have HN5 := Lib.hid (((Chg.refl (fun _ => False) W).drew).new hn5); have hd10 := HN5.out.cell hc10 (fun h => h); have hd11 := HN5.out.cell hc11 (fun h => h); have hd20 := HN5.out.cell hc20 (fun h => h); have hd21 := HN5.out.cell hc21 (fun h => h); clear hn5)
      | (go_at_call 11; refine (HC.out.2 _ ?_).mono ?_; exact HW.out.new HN5.out; rintro e w6 ⟨rfl, hn6⟩; have HN6 := Lib.hid hn6; have he10 := HN6.out.cell hd10 (fun h => h); have he11 := HN6.out.cell hd11 (fun h => h); have he20 := HN6.out.cell hd20 (fun h => h); have he21 := HN6.out.cell hd21 (fun h => h); clear hn6))
  all_goals
    clear hc10 hc11 hc20 hc21 hd10 hd11 hd20 hd21
    go_wp2
    go_ret
    exact ⟨rfl, (HW.out.new HN5.out).new HN6.out⟩
end Go.Proofs.YtgofjkppeobjfaaDoor

namespace Go.Proofs.YtgofjkppeobjfaaDoor
set_option linter.unusedVariables false
open Go.RowKit Go.Mem Go.Dig

/-- Two variables that hold integers, in blocks of the call's own. -/
structure PwI (w wr : World) (B g1 g2 : Nat) (s1 : Bool) (A1 : Option Addr) (n1 c1 : Nat) (s2 : Bool) (A2 : Option Addr) (n2 c2 : Nat) (P Q : Nat) : Prop where
  res : Blk wr B 25 #[.bool false, .slice none 0 0]
  b1 : Blk wr g1 25 #[.bool s1, .slice A1 n1 c1]
  b2 : Blk wr g2 25 #[.bool s2, .slice A2 n2 c2]
  r1 : RN wr (.agg #[.bool s1, .slice A1 n1 c1]) (P : Int)
  r2 : RN wr (.agg #[.bool s2, .slice A2 n2 c2]) (Q : Int)
  new : New w wr
theorem pow_lt2 {t K : Nat} (h : t < K) : ((2 ^ t : Nat) : Int).natAbs < 2 ^ K := by
  rw [Int.natAbs_natCast]
  exact Nat.pow_lt_pow_right (by omega) h
theorem pow_big {t : Nat} (h : t ≤ 100000) : ((2 ^ t : Nat) : Int).natAbs < 2 ^ 1000000 := pow_lt2 (K := 1000000) (Nat.lt_of_le_of_lt h (by decide))

set_option maxRecDepth 100000 in
set_option maxHeartbeats 4000000 in
theorem power_any (k : Nat) (hk : k ≤ 100000) (w : World) :
    Calls Tryd.prog 40 #[.int .i64 k] w fun e w' => ∃ v, e = .returned v ∧ RN w' v ((2 ^ k : Nat) : Int) ∧ New w w' := by
  obtain ⟨Z, hZ⟩ : ∃ Z, 2 ^ k = Z := ⟨_, rfl⟩
  rw [hZ]
  have HZ := Lib.hid hZ
  clear hZ
  go_enter Tryd.func40, Tryd.ntmps40
  go_wp2_with fail
  refine Calls.new1 ?_
  intro W1 hb1 hn1 hz1
  refine (of_any 1 W1 (by omega) (by omega)).mono ?_
  rintro e w2 ⟨v2, rfl, ⟨s2, A2, n2, c2, rfl, hs2, hm2⟩, hn2⟩
  have H2 := Lib.hid (And.intro (hb1.chg hn2 (fun h => h)) (And.intro (hn1.new hn2) (And.intro hs2 hm2)))
  clear hb1 hn1 hz1 hs2 hm2 hn2
  go_wp2_with fail
  refine Calls.new1 ?_
  intro W3 hb3 hn3 hz3
  refine (of_any 2 W3 (by omega) (by omega)).mono ?_
  rintro e w4 ⟨v4, rfl, ⟨s4, A4, n4, c4, rfl, hs4, hm4⟩, hn4⟩
  obtain ⟨g1, hg1⟩ : ∃ g, w2.heap.size = g := ⟨_, rfl⟩
  obtain ⟨g2, hg2⟩ : ∃ g, w4.heap.size = g := ⟨_, rfl⟩
  have hPw : PwI w (w4.alloc (.cells #[.bool s4, .slice A4 n4 c4] 25)) w.heap.size g1 g2 s2 A2 n2 c2 s4 A4 n4 c4 1 2 := by
    obtain ⟨hb, hn, hs2, hm2⟩ := H2.out
    have hn34 := hn3.new hn4
    exact ⟨((hb.chg hn34 (fun h => h))).alloc _, by rw [← hg1]; exact (hb3.chg hn4 (fun h => h)).alloc _, by rw [← hg2]; exact Blk.new _ _ _, RN.new ⟨s2, A2, n2, c2, rfl, hs2, hm2⟩ (hn34.alloc _), RN.new ⟨s4, A4, n4, c4, rfl, hs4, hm4⟩ ((Chg.refl _ _).alloc _), (hn.new hn34).alloc _⟩
  have hlt1 : w.heap.size < g1 := by have := H2.out.1.lt; omega
  have hlt2 : g1 < g2 := by have := hb3.lt; have := hn4.size; omega
  have HP := Lib.hid hPw
  clear hb3 hn3 hz3 hs4 hm4 hn4 hPw H2
  go_wp2_with fail
  obtain ⟨W5, hW5⟩ : ∃ W5, w4.alloc (.cells #[.bool s4, .slice A4 n4 c4] 25) = W5 := ⟨_, rfl⟩
  rw [hW5] at HP
  rw [hW5]
  clear hW5 hg1 hg2
  go_loopw [0] (fun v wr => ∃ m p t : Nat, ∃ s1 A1 n1 c1 s2 A2 n2 c2, v = .int .i64 m ∧ m ≤ k ∧ Hid (p + t * m = k ∧ (0 < m → t ≤ k)) ∧ Hid (PwI w wr w.heap.size g1 g2 s1 A1 n1 c1 s2 A2 n2 c2 (2 ^ p) (2 ^ t))) (fun v _ => (intOf v).toNat)
  case atStart => exact ⟨k, 0, 1, s2, A2, n2, c2, s4, A4, n4, c4, rfl, Nat.le_refl _, ⟨by omega, fun h => by omega⟩, HP.out⟩
  case round =>
    clear HP
    obtain ⟨m, p, t, s1, A1, n1, c1, s2, A2, n2, c2, rfl, hmk, HE, HI⟩ := hrel
    have a0 := HI.out.b1.cell 0 (u := .bool s1) rfl
    have a1 := HI.out.b1.cell 1 (u := .slice A1 n1 c1) rfl
    by_cases hm0 : m = 0
    · subst hm0
      have x0 := HI.out.res.cell 0 (u := .bool false) rfl
      have x1 := HI.out.res.cell 1 (u := .slice none 0 0) rfl
      have f0 := HI.out.res.frozen 0
      have f1 := HI.out.res.frozen 1
      go_wp2
      have hI := HI.out
      have hpk : 2 ^ p = Z := by rw [← HZ.out]; have := HE.out.1; rw [Nat.mul_zero, Nat.add_zero] at this; rw [this]
      refine bodyPost_ret (res_c rfl _ rfl (aggN.load (hI.res.set2 _ _))) rfl ⟨_, rfl, ?_, ?_⟩
      · rw [← hpk]; exact hI.r1.store hI.res (noInt_two' _ _ _ _) (Chg.at2 _ _ _ _)
      · exact Chg.owned hI.new (Chg.at2 _ _ _ _) (fun k e => by omega)
    · have hgt : (0 : Int) < (m : Int) := by omega
      have b0 := HI.out.b2.cell 0 (u := .bool s2) rfl
      have b1 := HI.out.b2.cell 1 (u := .slice A2 n2 c2) rfl
      have htk : t ≤ 100000 := by have := HE.out.2 (by omega); omega
      have hpk : p ≤ 100000 := by have := HE.out.1; omega
      obtain ⟨h, hh⟩ : ∃ h, m / 2 = h := ⟨_, rfl⟩
      have hhi : (m : Int) / 2 = (h : Int) := by omega
      by_cases hodd : m % 2 = 1
      · have hoi : ((m : Int) % 2 == 1) = true := by simp; omega
        have HM : Hid (m = 2 * h + 1) := by show _ = _; omega
        have hhm : h < m := by omega
        clear hh hodd
        go_wp2_with fail
        refine (rmul_any _ _ _ _ wr HI.out.r1 HI.out.r2 (pow_big hpk) (pow_big htk)).mono ?_
        rintro e w6 ⟨v6, rfl, ⟨s6, A6, n6, c6, rfl, hs6, hm6⟩, hn6⟩
        have hI := HI.out
        have d0 := (hI.b1.chg hn6 (fun h => h)).cell 0 (u := .bool s1) rfl
        have d1 := (hI.b1.chg hn6 (fun h => h)).cell 1 (u := .slice A1 n1 c1) rfl
        have f0 := (hI.b1.chg hn6 (fun h => h)).frozen 0
        have f1 := (hI.b1.chg hn6 (fun h => h)).frozen 1
        have e0 := (hI.b2.chg hn6 (fun h => h)).cell 0 (u := .bool s2) rfl
        have e1 := (hI.b2.chg hn6 (fun h => h)).cell 1 (u := .slice A2 n2 c2) rfl
        have hne : g2 ≠ g1 := by omega
        have hPw : PwI w ((w6.setCell ⟨g1, 0, none⟩ (.bool s6)).setCell ⟨g1, 1, none⟩ (.slice A6 n6 c6)) w.heap.size g1 g2 s6 A6 n6 c6 s2 A2 n2 c2 (2 ^ (p + t)) (2 ^ t) := by
          have hcs : Chg (fun k => k = g1) w6 ((w6.setCell ⟨g1, 0, none⟩ (.bool s6)).setCell ⟨g1, 1, none⟩ (.slice A6 n6 c6)) := Chg.at2 _ _ _ _
          have hbb := hI.b1.chg hn6 (fun h => h)
          refine ⟨(hI.res.chg hn6 (fun h => h)).chg hcs (by omega), hbb.set2 _ _, (hI.b2.chg hn6 (fun h => h)).chg hcs (by omega), ?_, (hI.r2.new hn6).store hbb (noInt_two' _ _ _ _) hcs, Chg.owned (hI.new.new hn6) hcs (fun k e => by omega)⟩
          refine RN.store ?_ hbb (noInt_two' _ _ _ _) hcs
          rw [Nat.pow_add, Int.natCast_mul]
          exact ⟨s6, A6, n6, c6, rfl, hs6, hm6⟩
        have HP6 := Lib.hid hPw
        clear hI hn6 hs6 hm6 hPw a0 a1 b0 b1
        go_wp2_with fail
        generalize ((w6.setCell ⟨g1, 0, none⟩ (.bool s6)).setCell ⟨g1, 1, none⟩ (.slice A6 n6 c6)) = W7 at *
        refine (rmul_any _ _ _ _ W7 HP6.out.r2 HP6.out.r2 (pow_big htk) (pow_big htk)).mono ?_
        rintro e w8 ⟨v8, rfl, ⟨s8, A8, n8, c8, rfl, hs8, hm8⟩, hn8⟩
        have hI := HP6.out
        have hbb := hI.b2.chg hn8 (fun h => h)
        have d0 := hbb.cell 0 (u := .bool s2) rfl
        have d1 := hbb.cell 1 (u := .slice A2 n2 c2) rfl
        have f0 := hbb.frozen 0
        have f1 := hbb.frozen 1
        have hPw : PwI w ((w8.setCell ⟨g2, 0, none⟩ (.bool s8)).setCell ⟨g2, 1, none⟩ (.slice A8 n8 c8)) w.heap.size g1 g2 s6 A6 n6 c6 s8 A8 n8 c8 (2 ^ (p + t)) (2 ^ (t + t)) := by
          have hcs : Chg (fun k => k = g2) w8 ((w8.setCell ⟨g2, 0, none⟩ (.bool s8)).setCell ⟨g2, 1, none⟩ (.slice A8 n8 c8)) := Chg.at2 _ _ _ _
          refine ⟨(hI.res.chg hn8 (fun h => h)).chg hcs (by omega), (hI.b1.chg hn8 (fun h => h)).chg hcs (by omega), hbb.set2 _ _, (hI.r1.new hn8).store hbb (noInt_two' _ _ _ _) hcs, ?_, Chg.owned (hI.new.new hn8) hcs (fun k e => by omega)⟩
          refine RN.store ?_ hbb (noInt_two' _ _ _ _) hcs
          rw [Nat.pow_add, Int.natCast_mul]
          exact ⟨s8, A8, n8, c8, rfl, hs8, hm8⟩
        have HP8 := Lib.hid hPw
        clear hI hn8 hs8 hm8 hPw hbb
        go_wp2
        go_roundw
        case rel =>
          refine ⟨h, p + t, t + t, s6, A6, n6, c6, s8, A8, n8, c8, rfl, by omega, ⟨?_, fun hp => ?_⟩, HP8.out⟩
          · have h1 := HE.out.1
            rw [HM.out, Nat.mul_add, Nat.mul_one, Nat.mul_left_comm] at h1
            rw [Nat.add_mul]
            omega
          · have h1 := HE.out.1
            rw [HM.out, Nat.mul_add, Nat.mul_one, Nat.mul_left_comm] at h1
            have : t * 1 ≤ t * h := Nat.mul_le_mul_left _ hp
            omega
        case measure => simp [intOf]; omega
      · have hoi : ((m : Int) % 2 == 1) = false := by simp; omega
        have HM : Hid (m = 2 * h) := by show _ = _; omega
        have hhm : h < m := by omega
        clear hh hodd
        go_wp2_with fail
        refine (rmul_any _ _ _ _ wr HI.out.r2 HI.out.r2 (pow_big htk) (pow_big htk)).mono ?_
        rintro e w8 ⟨v8, rfl, ⟨s8, A8, n8, c8, rfl, hs8, hm8⟩, hn8⟩
        have hI := HI.out
        have hbb := hI.b2.chg hn8 (fun h => h)
        have d0 := hbb.cell 0 (u := .bool s2) rfl
        have d1 := hbb.cell 1 (u := .slice A2 n2 c2) rfl
        have f0 := hbb.frozen 0
        have f1 := hbb.frozen 1
        have hPw : PwI w ((w8.setCell ⟨g2, 0, none⟩ (.bool s8)).setCell ⟨g2, 1, none⟩ (.slice A8 n8 c8)) w.heap.size g1 g2 s1 A1 n1 c1 s8 A8 n8 c8 (2 ^ p) (2 ^ (t + t)) := by
          have hcs : Chg (fun k => k = g2) w8 ((w8.setCell ⟨g2, 0, none⟩ (.bool s8)).setCell ⟨g2, 1, none⟩ (.slice A8 n8 c8)) := Chg.at2 _ _ _ _
          refine ⟨(hI.res.chg hn8 (fun h => h)).chg hcs (by omega), (hI.b1.chg hn8 (fun h => h)).chg hcs (by omega), hbb.set2 _ _, (hI.r1.new hn8).store hbb (noInt_two' _ _ _ _) hcs, ?_, Chg.owned (hI.new.new hn8) hcs (fun k e => by omega)⟩
          refine RN.store ?_ hbb (noInt_two' _ _ _ _) hcs
          rw [Nat.pow_add, Int.natCast_mul]
          exact ⟨s8, A8, n8, c8, rfl, hs8, hm8⟩
        have HP8 := Lib.hid hPw
        clear hI hn8 hs8 hm8 hPw hbb a0 a1 b0 b1
        go_wp2
        go_roundw
        case rel =>
          refine ⟨h, p, t + t, s1, A1, n1, c1, s8, A8, n8, c8, rfl, by omega, ⟨?_, fun hp => ?_⟩, HP8.out⟩
          · have h1 := HE.out.1
            rw [HM.out, Nat.mul_left_comm] at h1
            rw [Nat.add_mul]
            omega
          · have h1 := HE.out.1
            rw [HM.out, Nat.mul_left_comm] at h1
            have : t * 1 ≤ t * h := Nat.mul_le_mul_left _ hp
            omega
        case measure => simp [intOf]; omega
end Go.Proofs.YtgofjkppeobjfaaDoor

namespace Go.Proofs.YtgofjkppeobjfaaDoor
set_option linter.unusedVariables false
open Go.RowKit Go.Mem Go.Dig

theorem val_drop_le (B : Nat) (hB : 1 ≤ B) (l : List Nat) (k : Nat) : val B (l.drop k) ≤ val B l := by
  induction k with
  | zero => rw [List.drop_zero]; exact Nat.le_refl _
  | succ k ih =>
    refine Nat.le_trans ?_ ih
    rw [val_drop_dg B l k]
    exact Nat.le_trans (Nat.le_mul_of_pos_left _ hB) (Nat.le_add_left _ _)

set_option maxRecDepth 100000 in
set_option maxHeartbeats 4000000 in
theorem rsmall_any (v : Value) (x : Int) (w : World) (hx : RN w v x) (h1 : -9223372036854775808 ≤ x) (h2 : x ≤ 9223372036854775807) :
    Calls Tryd.prog 25 #[v] w fun e w' => e = .returned (.tuple #[.int .i64 x, .bool true]) ∧ New w w' := by
  obtain ⟨s, A, n, c, rfl, hs, hm⟩ := hx
  have H0 := Lib.hid (And.intro hs hm)
  have hC1 : ((0 : Int) < cmpI x 9223372036854775807) = False := by
    unfold cmpI
    split
    · simp
    · rw [if_neg (by omega)]; simp
  have hC2 : (cmpI x (-9223372036854775808) < 0) = False := by
    unfold cmpI
    rw [if_neg (by omega)]
    split <;> simp
  clear hs hm
  go_enter Tryd.func25, Tryd.ntmps25
  go_wp2_with fail
  refine Code.new1 ?_
  intro W hb1 hnW hzW
  have hc10 := hb1.cell 0 (u := .bool s) rfl
  have hc11 := hb1.cell 1 (u := .slice A n c) rfl
  have hof : ∀ (z : Int), -9223372036854775808 ≤ z → z ≤ 9223372036854775807 → ∀ W', Hid (New W W') → Calls Tryd.prog 22 #[.int .i64 z] W' fun e w' => ∃ s5 A5 n5 c5, e = .returned (.agg #[.bool s5, .slice A5 n5 c5]) ∧ Hid (RN w' (.agg #[.bool s5, .slice A5 n5 c5]) z) ∧ Hid (New W w') := fun z z1 z2 W' h =>
    (of_any z W' z1 z2).mono fun e w' ⟨v, h1, ⟨s5, A5, n5, c5, h2, h3, h4⟩, h5⟩ => ⟨s5, A5, n5, c5, by rw [h1, h2], ⟨s5, A5, n5, c5, rfl, h3, h4⟩, h.out.new h5⟩
  have hcmp : ∀ s5 A5 n5 c5 z W', Hid (New W W') → Hid (RN W' (.agg #[.bool s5, .slice A5 n5 c5]) z) → Calls Tryd.prog 34 #[.agg #[.bool s, .slice A n c], .agg #[.bool s5, .slice A5 n5 c5]] W' fun e w' => e = .returned (.int .i64 (cmpI x z)) ∧ Hid (New W w') := fun s5 A5 n5 c5 z W' h h' =>
    (rcompare_any _ _ x z W' ⟨s, A, n, c, rfl, H0.out.1, H0.out.2.new (hnW.new h.out)⟩ h'.out).mono fun e w' ⟨h1, h2⟩ => ⟨h1, h.out.new h2⟩
  have hofA := hof 9223372036854775807 (by omega) (by omega)
  have hofB := hof (-9223372036854775808) (by omega) (by omega)
  have HA := Lib.hid hofA
  have HB := Lib.hid hofB
  have HC := Lib.hid hcmp
  have HN0 : Hid (New W W.drew) := (Chg.refl _ W).drew
  have HW := Lib.hid (And.intro hb1 hnW)
  clear hof hcmp hofA hofB hb1 hnW hzW
  go_region_held3 (fun w' => w'.cell? ⟨w.heap.size, 0, none⟩ = some (.bool s) ∧ w'.cell? ⟨w.heap.size, 1, none⟩ = some (.slice A n c)) (first | exact ⟨by assumption, by assumption⟩)
    (first
      | (go_at_call 22; (with_reducible refine (HA.out _ ?_).mono ?_); exact HN0; rintro e w5 ⟨s5, A5, n5, c5, rfl, HR5, HN5⟩; have hd10 := HN5.out.cell hc10 (fun h => h); have hd11 := HN5.out.cell hc11 (fun h => h))
      | (go_at_call 22; (with_reducible refine (HB.out _ ?_).mono ?_); exact HN6; rintro e w7 ⟨s7, A7, n7, c7, rfl, HR7, HN7⟩; have hf10 := HN7.out.cell hc10 (fun h => h); have hf11 := HN7.out.cell hc11 (fun h => h))
      | (go_at_call 34; (with_reducible refine (HC.out _ _ _ _ _ _ HN7 HR7).mono ?_); rintro e w8 ⟨rfl, HN8⟩; have hg10 := HN8.out.cell hc10 (fun h => h); have hg11 := HN8.out.cell hc11 (fun h => h))
      | (go_at_call 34; (with_reducible refine (HC.out _ _ _ _ _ _ HN5 HR5).mono ?_); rintro e w6 ⟨rfl, HN6⟩; have he10 := HN6.out.cell hc10 (fun h => h); have he11 := HN6.out.cell hc11 (fun h => h)))
  obtain ⟨l, hr, hc1, hc2, hN⟩ := H0.out.2
  have hll : l.length = n := by have := hr.len; rwa [nv_length] at this
  have hx0 : s = true → x = -(x.natAbs : Int) ∧ x.natAbs ≤ 9223372036854775808 := fun h => by
    have : x < 0 := by simpa [h] using H0.out.1
    omega
  have hx1 : s = false → x = (x.natAbs : Int) ∧ x.natAbs ≤ 9223372036854775807 := fun h => by
    have : ¬ x < 0 := by simpa [h] using H0.out.1
    omega
  have hr8 : Rd w8 A n (nv .i64 l) ∧ New w w8 := ⟨hr.new (HW.out.2.new HN8.out), HW.out.2.new HN8.out⟩
  have hHH : True := trivial
  clear HA HB HC HN0 HW HN5 HR5 hd10 hd11 HN6 he10 he11 HN7 HR7 hf10 hf11 HN8 hc10 hc11 hr
  cases s
  · have HL : Hid ((Rd w8 A n (nv .i64 l) ∧ New w w8) ∧ Num 10000 l x.natAbs ∧ l.length = n ∧ x = (x.natAbs : Int) ∧ x.natAbs ≤ 9223372036854775807) := ⟨hr8, hN, hll, hx1 rfl⟩
    clear hx0 hx1 hr8 hN hll H0 hC1 hC2
    go_wp2_with fail
    go_loopw [4, 5] (fun u v wr => ∃ k m : Nat, u = .int .i64 (m : Int) ∧ v = .int .i64 ((k : Int) - 1) ∧ k ≤ n ∧ m ≤ 9223372036854775807 ∧ Hid (val 10000 (l.drop k) = m) ∧ Hid (New w8 wr)) (fun _ v _ => (intOf v + 1).toNat)
    case atStart => exact ⟨n, 0, rfl, rfl, Nat.le_refl _, by omega, by show _ = _; rw [List.drop_of_length_le (by have := HL.out.2.2.1; omega)]; rfl, Chg.refl _ _⟩
    case round =>
      obtain ⟨k, m, rfl, rfl, hk, hmb, HV, HN⟩ := hrel
      have c0 := HN.out.cell hg10 (fun h => h)
      have c1 := HN.out.cell hg11 (fun h => h)
      by_cases h0 : k = 0
      · subst h0
        go_wp2
        go_ret2
        have := HV.out
        rw [List.drop_zero, HL.out.2.1.val] at this
        exact ⟨by rw [show x = (m : Int) by have := HL.out.2.2.2; omega]; rfl, HL.out.1.2.new HN.out⟩
      · obtain ⟨j, rfl⟩ : ∃ j, k = j + 1 := ⟨k - 1, by omega⟩
        have hj1 : (((j + 1 : Nat) : Int) - 1) = (j : Int) := by omega
        rw [hj1]
        obtain ⟨ad, u, rfl, hu, hcu⟩ := (HL.out.1.1.new HN.out).at_ (show j < n by omega)
        obtain ⟨d, hd, rfl⟩ := nv_at hu
        have hdb := HL.out.2.1.digs.at_ hd
        have hst : val 10000 (l.drop j) = m * 10000 + d := by rw [val_drop hd, HV.out]; omega
        have hle := val_drop_le 10000 (by omega) l j
        rw [hst, HL.out.2.1.val] at hle
        have hle2 : m * 10000 + d ≤ 9223372036854775807 := by have := HL.out.2.2.2; omega
        have hmi : (m : Int) * 10000 + (d : Int) = ((m * 10000 + d : Nat) : Int) := by omega
        generalize hq : m * 10000 + d = q at *
        have HS := Lib.hid hst
        clear hj1 hu hd hst hle hq
        go_wp2
        go_roundw
        case rel => exact ⟨j, q, rfl, by go_num, by omega, by omega, HS.out, HN.out⟩
        case measure => simp [intOf]
  · have HL : Hid ((Rd w8 A n (nv .i64 l) ∧ New w w8) ∧ Num 10000 l x.natAbs ∧ l.length = n ∧ x = -(x.natAbs : Int) ∧ x.natAbs ≤ 9223372036854775808) := ⟨hr8, hN, hll, hx0 rfl⟩
    clear hx0 hx1 hr8 hN hll H0 hC1 hC2
    go_wp2_with fail
    go_loopw [4, 5] (fun u v wr => ∃ k m : Nat, u = .int .i64 (-(m : Int)) ∧ v = .int .i64 ((k : Int) - 1) ∧ k ≤ n ∧ m ≤ 9223372036854775808 ∧ Hid (val 10000 (l.drop k) = m) ∧ Hid (New w8 wr)) (fun _ v _ => (intOf v + 1).toNat)
    case atStart => exact ⟨n, 0, rfl, rfl, Nat.le_refl _, by omega, by show _ = _; rw [List.drop_of_length_le (by have := HL.out.2.2.1; omega)]; rfl, Chg.refl _ _⟩
    case round =>
      obtain ⟨k, m, rfl, rfl, hk, hmb, HV, HN⟩ := hrel
      have c0 := HN.out.cell hg10 (fun h => h)
      have c1 := HN.out.cell hg11 (fun h => h)
      by_cases h0 : k = 0
      · subst h0
        go_wp2
        go_ret2
        have := HV.out
        rw [List.drop_zero, HL.out.2.1.val] at this
        exact ⟨by rw [show x = (-(m : Int)) by have := HL.out.2.2.2; omega]; rfl, HL.out.1.2.new HN.out⟩
      · obtain ⟨j, rfl⟩ : ∃ j, k = j + 1 := ⟨k - 1, by omega⟩
        have hj1 : (((j + 1 : Nat) : Int) - 1) = (j : Int) := by omega
        rw [hj1]
        obtain ⟨ad, u, rfl, hu, hcu⟩ := (HL.out.1.1.new HN.out).at_ (show j < n by omega)
        obtain ⟨d, hd, rfl⟩ := nv_at hu
        have hdb := HL.out.2.1.digs.at_ hd
        have hst : val 10000 (l.drop j) = m * 10000 + d := by rw [val_drop hd, HV.out]; omega
        have hle := val_drop_le 10000 (by omega) l j
        rw [hst, HL.out.2.1.val] at hle
        have hle2 : m * 10000 + d ≤ 9223372036854775808 := by have := HL.out.2.2.2; omega
        have hmi : -(m : Int) * 10000 - (d : Int) = -((m * 10000 + d : Nat) : Int) := by omega
        have hb1 : -9223372036854775808 ≤ -(m : Int) * 10000 := by omega
        have hb2 : -9223372036854775808 ≤ -(m : Int) * 10000 - (d : Int) := by omega
        generalize hq : m * 10000 + d = q at *
        have HS := Lib.hid hst
        clear hj1 hu hd hst hle hq
        go_wp2
        go_roundw
        case rel => exact ⟨j, q, rfl, by go_num, by omega, by omega, HS.out, HN.out⟩
        case measure => simp [intOf]
end Go.Proofs.YtgofjkppeobjfaaDoor

namespace Go.Proofs.YtgofjkppeobjfaaDoor
set_option linter.unusedVariables false
open Go.RowKit Go.Mem Go.Dig

/-! ### the contracts with hidden facts -/
theorem of_h (z : Int) (W : World) (h1 : -9223372036854775808 ≤ z) (h2 : z ≤ 9223372036854775807) :
    Calls Tryd.prog 22 #[.int .i64 z] W fun e w' => ∃ s A n c, e = .returned (.agg #[.bool s, .slice A n c]) ∧ Hid (RN w' (.agg #[.bool s, .slice A n c]) z ∧ New W w') :=
  (of_any z W h1 h2).mono fun e w' ⟨v, h1, ⟨s, A, n, c, h2, h3, h4⟩, h5⟩ => ⟨s, A, n, c, by rw [h1, h2], ⟨s, A, n, c, rfl, h3, h4⟩, h5⟩
theorem rmul_h (v v' : Value) (x y : Int) (W : World) (hx : RN W v x) (hy : RN W v' y) (bx : x.natAbs < 2 ^ 1000000) (bY : y.natAbs < 2 ^ 1000000) :
    Calls Tryd.prog 27 #[v, v'] W fun e w' => ∃ s A n c, e = .returned (.agg #[.bool s, .slice A n c]) ∧ Hid (RN w' (.agg #[.bool s, .slice A n c]) (x * y) ∧ New W w') :=
  (rmul_any v v' x y W hx hy bx bY).mono fun e w' ⟨v, h1, ⟨s, A, n, c, h2, h3, h4⟩, h5⟩ => ⟨s, A, n, c, by rw [h1, h2], ⟨s, A, n, c, rfl, h3, h4⟩, h5⟩
theorem radd_h (v v' : Value) (x y : Int) (W : World) (hx : RN W v x) (hy : RN W v' y) (bx : x.natAbs < 2 ^ 1000000) (bY : y.natAbs < 2 ^ 1000000) :
    Calls Tryd.prog 28 #[v, v'] W fun e w' => ∃ s A n c, e = .returned (.agg #[.bool s, .slice A n c]) ∧ Hid (RN w' (.agg #[.bool s, .slice A n c]) (x + y) ∧ New W w') :=
  (radd_any v v' x y W hx hy bx bY).mono fun e w' ⟨v, h1, ⟨s, A, n, c, h2, h3, h4⟩, h5⟩ => ⟨s, A, n, c, by rw [h1, h2], ⟨s, A, n, c, rfl, h3, h4⟩, h5⟩
theorem power_h (k : Nat) (hk : k ≤ 100000) (W : World) :
    Calls Tryd.prog 40 #[.int .i64 k] W fun e w' => ∃ s A n c, e = .returned (.agg #[.bool s, .slice A n c]) ∧ Hid (RN w' (.agg #[.bool s, .slice A n c]) ((2 ^ k : Nat) : Int) ∧ New W w') :=
  (power_any k hk W).mono fun e w' ⟨v, h1, ⟨s, A, n, c, h2, h3, h4⟩, h5⟩ => ⟨s, A, n, c, by rw [h1, h2], ⟨s, A, n, c, rfl, h3, h4⟩, h5⟩

theorem pow_le2 (a b : Nat) (h : a ≤ b) : 2 ^ a ≤ 2 ^ b := Nat.pow_le_pow_right (by omega) h
theorem small_big {z : Int} (h1 : -18446744073709551616 < z) (h2 : z < 18446744073709551616) : z.natAbs < 2 ^ 1000000 :=
  Nat.lt_of_lt_of_le (show z.natAbs < 2 ^ 64 by omega) (pow_le2 64 1000000 (by decide))

end Go.Proofs.YtgofjkppeobjfaaDoor
