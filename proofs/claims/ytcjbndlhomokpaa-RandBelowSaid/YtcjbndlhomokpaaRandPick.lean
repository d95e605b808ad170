/- Contract of rand.Pick. -/
import Derived.Test.YtcjbndlhomokpaaRandBelow
namespace Go.Proofs.Ytcjbndlhomokpaa
set_option linter.unusedVariables false
open Go.RowKit Go.Shelf Go.Mem Go.Pure

/-- The first place at which the weights up to it come above r. -/
def seek : List Int → Int → Nat → Option Nat
  | [], _, _ => none
  | w :: t, r, k => if r < w then some k else seek t (r - w) (k + 1)
def goodW (l : List Int) : Prop := ∀ w ∈ l, 0 ≤ w ∧ w ≤ 1099511627776
theorem sum_bound {l : List Int} (h : goodW l) : 0 ≤ l.sum ∧ l.sum ≤ l.length * 1099511627776 := by
  induction l with
  | nil => simp
  | cons x l ih =>
    have h1 := ih (fun w hw => h w (by simp [hw]))
    have h2 := h x (by simp)
    simp only [List.sum_cons, List.length_cons]
    omega
theorem sum_take {l : List Int} {k : Nat} {z : Int} (h : l[k]? = some z) : (l.take (k + 1)).sum = (l.take k).sum + z := by
  rw [List.take_add_one, h]
  simp
/-- Pick's refusal. -/
def pickBad (l : List Int) : Prop := l = [] ∨ 4096 < l.length ∨ ¬ goodW l ∨ l.sum = 0
open Classical in
noncomputable def pickR (seed : Int) (lab : List UInt8) (i : Int) (l : List Int) : Int × Int × Int :=
  if pickBad l then (0, i, 1)
  else match seek l (wordI seed lab (i + takenN seed lab i l.sum.toNat) % l.sum) 0 with
    | some k => (k, i + takenN seed lab i l.sum.toNat + 1, 0)
    | none => (0, i, 1)
theorem pickR_bad {seed : Int} {lab : List UInt8} {i : Int} {l : List Int} (h : pickBad l) : pickR seed lab i l = (0, i, 1) := by
  unfold pickR
  rw [if_pos h]
theorem pickR_ok {seed : Int} {lab : List UInt8} {i : Int} {l : List Int} (h : ¬ pickBad l) {S t : Nat} {r : Int} {k : Nat} (hS : l.sum = (S : Int)) (ht : takenN seed lab i S = t) (hr : wordI seed lab (i + t) % S = r) (hk : seek l r 0 = some k) : pickR seed lab i l = ((k : Int), i + t + 1, 0) := by
  unfold pickR
  rw [if_neg h, hS, Int.toNat_natCast, ht, hr, hk]
/-- A number below the sum finds its place. -/
theorem seek_found {l : List Int} (h : goodW l) : ∀ (r : Int) (k : Nat), 0 ≤ r → r < l.sum → ∃ j, seek l r k = some j ∧ k ≤ j ∧ j < k + l.length := by
  induction l with
  | nil => intro r k h0 hr; simp at hr; omega
  | cons x l ih =>
    intro r k h0 hr
    unfold seek
    split
    · exact ⟨k, rfl, Nat.le_refl _, by simp⟩
    · obtain ⟨j, h1, h2, h3⟩ := ih (fun w hw => h w (by simp [hw])) (r - x) (k + 1) (by omega) (by simp at hr; omega)
      exact ⟨j, h1, by omega, by simp; omega⟩
theorem seek_drop {l : List Int} {k : Nat} {z r : Int} (h : l[k]? = some z) : seek (l.drop k) r k = if r < z then some k else seek (l.drop (k + 1)) (r - z) (k + 1) := by
  obtain ⟨hk, rfl⟩ := List.getElem?_eq_some_iff.1 h
  rw [List.drop_eq_getElem_cons hk]
  rfl

set_option maxRecDepth 100000 in
set_option maxHeartbeats 2000000 in
theorem pick_any (seed : Int) (s : ByteArray) (hs : s.size ≤ 1000000) (i : Int) (hi : 0 ≤ i ∧ i ≤ 1000000000) (A : Option Addr) (n c : Nat) (l : List Int) (w : World) (hr : Rd w A n (is l)) (hn : n ≤ 9223372036854775807) :
    Calls Try.prog 15 #[.int .u64 seed, .string s, .int .i64 i, .slice A n c] w fun e w' =>
      e = .returned (.tuple #[.int .i64 (pickR seed s.data.toList i l).1, .int .i64 (pickR seed s.data.toList i l).2.1, .int .i64 (pickR seed s.data.toList i l).2.2]) ∧ New w w' := by
  have hll : l.length = n := by have := hr.len; rwa [is_length] at this
  by_cases h0 : n = 0
  · have hbad : pickBad l := .inl (List.eq_nil_of_length_eq_zero (by omega))
    rw [pickR_bad hbad]
    subst h0
    clear hbad hll
    go_enter Try.func15, Try.ntmps15
    go_wp2
    go_ret3
    exact ⟨rfl, Chg.refl _ _⟩
  · have he0 : ((n : Int) == 0) = false := by simp; omega
    by_cases h4 : 4096 < n
    · have hbad : pickBad l := .inr (.inl (by omega))
      rw [pickR_bad hbad]
      have h4i : (4096 : Int) < (n : Int) := by omega
      clear hbad hll
      go_enter Try.func15, Try.ntmps15
      go_wp2
      go_ret3
      exact ⟨rfl, Chg.refl _ _⟩
    · have h4d : decide ((4096 : Int) < (n : Int)) = false := by simp; omega
      obtain ⟨P, hP⟩ : ∃ P, pickR seed s.data.toList i l = P := ⟨_, rfl⟩
      rw [hP]
      have H0 := Lib.hid (And.intro hll (And.intro hr hP))
      clear hll hr hP
      go_enter Try.func15, Try.ntmps15
      go_wp2_with fail
      go_loopw [11, 29] (fun v j wr => ∃ k S : Nat, k ≤ n ∧ j = .int .i64 k ∧ v = .int .i64 S ∧ goodW (l.take k) ∧ (l.take k).sum = (S : Int) ∧ S ≤ k * 1099511627776 ∧ wr = w) (fun _ j _ => n - (intOf j).toNat)
      case atStart => exact ⟨0, 0, by omega, rfl, rfl, fun w hw => by simp at hw, by simp, by omega, rfl⟩
      case round =>
        obtain ⟨k, S, hk, rfl, rfl, hgood, hsum, hSb, rfl⟩ := hrel
        have HG := Lib.hid (And.intro hgood hsum)
        clear hgood hsum
        by_cases hlt : k < n
        · obtain ⟨hll, hr, hP⟩ := H0.out
          obtain ⟨ad, u, rfl, hu, hcu⟩ := hr.at_ hlt
          obtain ⟨z, hz, rfl⟩ := is_at hu
          have HZ := Lib.hid hz
          clear hll hr hP hu hz
          by_cases hz0 : z < 0
          · have HB : Hid (pickBad l) := .inr (.inr (.inl (fun h => by have := (h z (List.mem_of_getElem? HZ.out)).1; omega)))
            go_wp2
            go_ret3
            rw [← H0.out.2.2, pickR_bad HB.out]
            exact ⟨rfl, Chg.refl _ _⟩
          · have hz0d : decide (z < 0) = false := by simp; omega
            by_cases hz4 : 1099511627776 < z
            · have HB : Hid (pickBad l) := .inr (.inr (.inl (fun h => by have := (h z (List.mem_of_getElem? HZ.out)).2; omega)))
              go_wp2
              go_ret3
              rw [← H0.out.2.2, pickR_bad HB.out]
              exact ⟨rfl, Chg.refl _ _⟩
            · have hz4d : decide (1099511627776 < z) = false := by simp; omega
              go_wp2
              go_roundw
              case rel =>
                obtain ⟨hgood, hsum⟩ := HG.out
                refine ⟨k + 1, S + z.toNat, by omega, by go_num, by go_num, ?_, ?_, by omega, trivial⟩
                · intro y hy
                  rw [List.take_add_one, HZ.out] at hy
                  rcases List.mem_append.1 hy with h | h
                  · exact hgood y h
                  · simp at h; omega
                · rw [sum_take HZ.out, hsum]; omega
              case measure => simp [intOf]; omega
        · obtain rfl : n = k := by omega
          obtain ⟨hll, hr, hP⟩ := H0.out
          obtain ⟨hgood, hsum⟩ := HG.out
          rw [List.take_of_length_le (by omega)] at hgood hsum
          have HS := Lib.hid (And.intro hll (And.intro hr (And.intro hP (And.intro hgood hsum))))
          have hSb2 : S ≤ 4503599627370496 := by omega
          clear hll hr hP hgood hsum HG H0
          by_cases hS0 : S = 0
          · have hse : ((S : Int) == 0) = true := by simp; omega
            have HB : Hid (pickBad l) := .inr (.inr (.inr (by rw [HS.out.2.2.2.2, hS0]; rfl)))
            go_wp2
            go_ret3
            rw [← HS.out.2.2.1, pickR_bad HB.out]
            exact ⟨rfl, Chg.refl _ _⟩
          · have hse : ((S : Int) == 0) = false := by simp; omega
            go_wp2_with fail
            refine (below_any seed s hs i hi S (by omega) (by omega) _).mono ?_
            rintro e w2 ⟨rfl, hn2⟩
            obtain ⟨t, ht⟩ : ∃ t, takenN seed s.data.toList i S = t := ⟨_, rfl⟩
            rw [ht]
            have hm0 : 0 ≤ wordI seed s.data.toList (i + t) % (S : Int) := Int.emod_nonneg _ (by omega)
            have hm1 : wordI seed s.data.toList (i + t) % (S : Int) < (S : Int) := Int.emod_lt_of_pos _ (by omega)
            obtain ⟨r0, hr0⟩ : ∃ r0, wordI seed s.data.toList (i + t) % (S : Int) = r0 := ⟨_, rfl⟩
            rw [hr0] at hm0 hm1 ⊢
            obtain ⟨hll, hr, hP, hgood, hsum⟩ := HS.out
            obtain ⟨j, hj, _, hjl⟩ := seek_found hgood r0 0 hm0 (by rw [hsum]; exact hm1)
            have hbad : ¬ pickBad l := fun h => by
              rcases h with h | h | h | h
              · rw [h] at hll; simp at hll; omega
              · omega
              · exact h hgood
              · rw [hsum] at h; omega
            have hPv : P = ((j : Int), i + t + 1, 0) := by rw [← hP]; exact pickR_ok hbad hsum ht hr0 hj
            have H2 := Lib.hid (And.intro hn2 (And.intro hj (And.intro hPv (And.intro hll (And.intro hr hgood)))))
            clear hn2 ht hr0 hll hr hP hgood hsum hj hbad hPv HS
            obtain ⟨q, hq⟩ : ∃ q, i + (t : Int) + 1 = q := ⟨_, rfl⟩
            rw [hq]
            have HQ := Lib.hid hq
            clear hq
            go_wp2_with fail
            go_loopw [14, 57] (fun v y wq => ∃ k : Nat, ∃ r : Int, k ≤ n ∧ y = .int .i64 k ∧ v = .int .i64 r ∧ seek (l.drop k) r k = some j ∧ 0 ≤ r ∧ r ≤ 4503599627370496 ∧ wq = w2) (fun _ y _ => n - (intOf y).toNat)
            case atStart => exact ⟨0, r0, by omega, rfl, rfl, by rw [List.drop_zero]; exact H2.out.2.1, hm0, by omega, rfl⟩
            case round =>
              obtain ⟨k, r, hk, rfl, rfl, hseek, hr0, hrb, rfl⟩ := hrel
              have HK := Lib.hid hseek
              clear hseek
              by_cases hlt : k < n
              · obtain ⟨hn2, hj, hPv, hll, hr, hgood⟩ := H2.out
                obtain ⟨ad, u, rfl, hu, hcu⟩ := (hr.new hn2).at_ hlt
                obtain ⟨z, hz, rfl⟩ := is_at hu
                have hzb := hgood z (List.mem_of_getElem? hz)
                have HZ := Lib.hid hz
                clear hn2 hj hPv hll hr hgood hu hz
                by_cases hrz : r < z
                · go_wp2
                  go_ret3
                  have h1 := HK.out
                  rw [seek_drop HZ.out, if_pos hrz] at h1
                  injection h1 with h1
                  rw [H2.out.2.2.1, ← h1, HQ.out]
                  exact ⟨rfl, H2.out.1⟩
                · have hrzd : decide (r < z) = false := by simp; omega
                  go_wp2
                  go_roundw
                  case rel =>
                    have h1 := HK.out
                    rw [seek_drop HZ.out, if_neg hrz] at h1
                    exact ⟨k + 1, r - z, by omega, by go_num, by go_num, h1, by omega, by omega, trivial⟩
                  case measure => simp [intOf]; omega
              · exfalso
                have h1 := HK.out
                rw [List.drop_of_length_le (by have := H2.out.2.2.2.1; omega)] at h1
                cases h1
end Go.Proofs.Ytcjbndlhomokpaa
