/- The parts WideI, PureDig5, WideJ, WideK, PureDig6, WideL, WideM, WideN, WideO of the proof, in one text. -/
import Derived.IntWalk
import Derived.Deep.LoopGhost
import Derived.Lib.ItoaNum
import Derived.Deep.CutRange
import Derived.Deep.RegionHeld3
import Derived.Test.YtblcaeoeeepajaaGreatDoorB2
set_option linter.unusedSimpArgs false
set_option linter.unusedVariables false

namespace Go.Dig
set_option linter.unusedVariables false
/-- Digits on the way of shifting up: those below k are a's. -/
def shU (P Q : Nat) (a : List Nat) (k j : Nat) : Nat := if j < k then dg a j else shD 4294967296 P Q a j
theorem shU_start (P Q : Nat) (la : List Nat) {n : Nat} (h : la.length = n) : nv .u32 la ++ List.drop n (List.replicate (n + 1) (Value.int .u32 0)) = nv .u32 (lst (n + 1) (shU P Q la (n + 1))) := by
  have e : lst (n + 1) (shU P Q la (n + 1)) = la ++ [0] := by
    rw [lst_succ]
    have e1 : lst n (shU P Q la (n + 1)) = la := by
      rw [lst_congr (g := dg la) (fun j hj => by rw [shU, if_pos (by omega)]), ← h, lst_eq]
    rw [e1, shU, if_pos (by omega), dg_none (by omega)]
  rw [e]
  simp [nv]
theorem shU_zero (P Q : Nat) (la : List Nat) : shU P Q la 0 = shD 4294967296 P Q la := by
  funext j
  rw [shU, if_neg (by omega)]
theorem shU_set (N P Q : Nat) (la : List Nat) (i : Nat) : (lst N (shU P Q la (i + 1))).set i (shD 4294967296 P Q la i) = lst N (shU P Q la i) := by
  rw [lst_set]
  apply lst_congr
  intro j hj
  by_cases h : j = i
  · subst h; simp [shU]
  · rw [if_neg h]
    unfold shU
    by_cases h2 : j < i
    · rw [if_pos h2, if_pos (by omega)]
    · rw [if_neg h2, if_neg (by omega)]
theorem shU_next {s d D i j u e E : Nat} (la : List Nat) (hd : dg la i = d) (hD : d * 2 ^ s % 4294967296 = D) (he : dg la j = e) (hji : i = j + 1) (hu : 32 - s = u) (hE : e / 2 ^ u = E) : D + E = shD 4294967296 (2 ^ s) (2 ^ (32 - s)) la i := by
  rw [shD, hd, hD, if_neg (by omega), show i - 1 = j by omega, he, hu, hE]
theorem shU_last {s d D i : Nat} (la : List Nat) (hda : Digs 4294967296 la) (hd : dg la i = d) (hD : d * 2 ^ s % 4294967296 = D) (h : i = 0 ∨ s = 0) : D = shD 4294967296 (2 ^ s) (2 ^ (32 - s)) la i := by
  rw [shD, hd, hD]
  rcases h with h | h
  · rw [if_pos h]; rfl
  · subst h
    have : dg la (i - 1) / 2 ^ (32 - 0) = 0 := Nat.div_eq_of_lt (dg_lt hda (by omega) _)
    rw [this]; simp
end Go.Dig
namespace Go.Proofs.YtblcaeoeeepajaaGreatDoor
set_option linter.unusedVariables false
open Go.RowKit Go.Mem Go.Dig Go.Pure

theorem or_disj {s u d e D E : Nat} (hs : s + u = 32) (he : e < 4294967296) (hD : d * 2 ^ s % 4294967296 = D) (hE : e / 2 ^ u = E) : bits .or .u32 (D : Int) (E : Int) = ((D + E : Nat) : Int) := by
  have hB : (4294967296 : Nat) = 2 ^ u * 2 ^ s := by rw [← Nat.pow_add, show u + s = 32 by omega]
  have h1 : D = (d % 2 ^ u) * 2 ^ s := by rw [← hD, hB, Nat.mul_mod_mul_right]
  have h2 : E < 2 ^ s := by
    rw [← hE, Nat.div_lt_iff_lt_mul (Nat.two_pow_pos _), Nat.mul_comm, ← hB]; exact he
  have h3 : (2 : Nat) ^ s ≤ 4294967296 := by
    rw [show (4294967296 : Nat) = 2 ^ 32 by rfl]; exact Nat.pow_le_pow_right (by omega) (by omega)
  rw [u32_or_nat _ _ (by omega) (by omega)]
  have := Nat.shiftLeft_add_eq_or_of_lt h2 (d % 2 ^ u)
  rw [Nat.shiftLeft_eq, ← h1] at this
  rw [this]

set_option maxRecDepth 100000 in
set_option maxHeartbeats 2000000 in
theorem shifted_any (A : Option Addr) (n c : Nat) (s : Nat) (w : World) (la : List Nat) (ha : Rd w A n (nv .u32 la)) (hda : Digs 4294967296 la) (hc1 : n ≤ c) (hc2 : c ≤ maxLen) (hn : n ≤ 1000000) (hs : s < 32) :
    Calls Tryz.prog 80 #[.slice A n c, .int .i64 s] w fun e w' => ∃ g, e = .returned (.slice (some ⟨g, 0, none⟩) ((n + 1 : Nat)) ((n + 1 : Nat))) ∧ Hid (w'.ownsRow g 69 1 (.slice (some ⟨g, 0, none⟩) ((n + 1 : Nat)) ((n + 1 : Nat))) (n + 1) (nv .u32 (lst (n + 1) (shD 4294967296 (2 ^ s) (2 ^ (32 - s)) la))) ∧ g = w.heap.size ∧ New w w') := by
  have hla : la.length = n := by have := ha.len; rwa [nv_length] at this
  have H0 := Lib.hid (And.intro ha (And.intro hda hla))
  clear ha hda hla
  go_enter Tryz.func80, Tryz.ntmps80
  go_wp2_with (first
    | (at_make; refine wpList_mk elemU32 rfl rfl _ _ rfl (n := n + 1) rfl rfl rfl rfl (by omega) (by simp only [maxLen]; omega) ?_; intro w1 hown hg hz; have HMK := Lib.hid (And.intro hown (And.intro hg hz)); clear hown hg hz)
    | ((with_reducible refine wpList_cp elemU32 rfl (.tmp 11) (.tmp 12) rfl rfl HMK.out.1 rfl (Nat.le_succ _) (H0.out.1.new HMK.out.2.1) (nv_one _) ?_); intro w2 hown2 hch2; have HCP := Lib.hid (And.intro hown2 hch2); clear hown2 hch2))
  obtain ⟨ho, hnw, hz⟩ := HMK.out
  obtain ⟨hown2, hch2⟩ := HCP.out
  obtain ⟨g, hgq⟩ : ∃ g, w.heap.size = g := ⟨_, rfl⟩
  rw [hgq] at hown2 hch2
  have HG := Lib.hid hgq
  have HW := Lib.hid (And.intro hnw (And.intro hown2 hch2))
  simp only [hgq]
  clear hgq hnw ho hz HMK HCP hown2 hch2
  go_loopw [6] (fun i wr => ∃ k : Nat, i = .int .i64 ((k : Int) - 1) ∧ k ≤ n + 1 ∧ Hid (wr.ownsRow g 69 1 (.slice (some ⟨g, 0, none⟩) (n + 1) (n + 1)) (n + 1) (nv .u32 (lst (n + 1) (shU (2 ^ s) (2 ^ (32 - s)) la k))) ∧ Chg (fun j => j = g) w1 wr)) (fun i _ => (intOf i + 1).toNat)
  case atStart =>
    obtain ⟨ha, hda, hla⟩ := H0.out
    refine ⟨n + 1, by simp, Nat.le_refl _, ?_, HW.out.2.2⟩
    have := HW.out.2.1
    rwa [shU_start _ _ _ hla] at this
  case round =>
    obtain ⟨k, rfl, hk, HO⟩ := hrel
    by_cases h0 : k = 0
    · subst h0
      go_wp2
      go_ret
      obtain ⟨hown, hch⟩ := HO.out
      refine ⟨g, rfl, ?_, HG.out.symm, Chg.owned HW.out.1 hch (fun k e => by have := HG.out; omega)⟩
      rwa [shU_zero] at hown
    · obtain ⟨i, rfl⟩ : ∃ i, k = i + 1 := ⟨k - 1, by omega⟩
      have hij : (((i + 1 : Nat) : Int) - 1) = (i : Int) := by omega
      rw [hij]
      obtain ⟨wo, rfl⟩ : ∃ wo : World, wo = wr := ⟨_, rfl⟩
      obtain ⟨ha, hda, hla⟩ := H0.out
      obtain ⟨hown, hch⟩ := HO.out
      obtain ⟨d, hd⟩ : ∃ d, dg la i = d := ⟨_, rfl⟩
      have hcz := own_cell hown (i := i) (u := .int .u32 (d : Nat)) (by rw [nv, List.getElem?_map, lst_at _ (by omega)]; simp [shU, hd])
      have hfz := own_frz hown (by omega) i
      have hin : (i : Int) < (n : Int) + 1 := by omega
      have hdb : d < 4294967296 := by rw [← hd]; exact dg_lt hda (by omega) i
      obtain ⟨D, hD⟩ : ∃ D, d * 2 ^ s % 4294967296 = D := ⟨_, rfl⟩
      have hDi : (d : Int) * 2 ^ s % 4294967296 = (D : Int) := by rw [← hD]; simp
      have hDb : D < 4294967296 := by omega
      have hset := own_set hown i (.int .u32 (D : Int)) (by omega)
      rw [nv_set] at hset
      have hch2 := hch.setCell (p := ⟨g, i, none⟩) (fun _ => rfl) (.int .u32 (D : Int))
      by_cases hcase : 0 < i ∧ 0 < s
      · obtain ⟨j, hji⟩ : ∃ j, i = j + 1 := ⟨i - 1, by omega⟩
        obtain ⟨e, he⟩ : ∃ e, dg la j = e := ⟨_, rfl⟩
        have hce := own_cell hset (i := j) (u := .int .u32 (e : Nat)) (by rw [nv, List.getElem?_map, List.getElem?_set_ne (by omega), lst_at _ (by omega)]; simp only [shU, Option.map_some]; rw [if_pos (by omega), he])
        have hcD := own_cell hset (i := i) (u := .int .u32 (D : Nat)) (by rw [nv, List.getElem?_map, List.getElem?_set_self (by rw [lst_len]; omega)]; rfl)
        have hfD := own_frz hset (by omega) i
        obtain ⟨u, hu⟩ : ∃ u, 32 - s = u := ⟨_, rfl⟩
        have hui : (32 : Int) - (s : Int) = (u : Int) := by omega
        have hij2 : (i : Int) - 1 = (j : Int) := by omega
        obtain ⟨E, hE⟩ : ∃ E, e / 2 ^ u = E := ⟨_, rfl⟩
        have hEi : (e : Int) / 2 ^ u = (E : Int) := by rw [← hE]; simp
        have hor : bits .or .u32 (D : Int) (E : Int) = ((D + E : Nat) : Int) := by
          exact or_disj (by omega) (by rw [← he]; exact dg_lt hda (by omega) j) hD hE
        have hu32 : u < 32 := by omega
        have hs0 : (0 : Int) < (s : Int) := by omega
        have hi0 : (0 : Int) < (i : Int) := by omega
        have hnn : ((i : Int) < (n : Int) + 1) := by omega
        have hnj : ((j : Int) < (n : Int) + 1) := by omega
        have HS := Lib.hid (And.intro hset (And.intro hch2 (And.intro hji (And.intro hd (And.intro he (And.intro hD (And.intro hE hu)))))))
        clear hset hch2 hji hd he hD hE hu hown hch ha hda hla hij hcase h0
        go_wp2
        obtain ⟨wn, hwn⟩ : ∃ wn : World, wo.setCell ⟨g, i, none⟩ (.int .u32 (D : Int)) = wn := ⟨_, rfl⟩
        simp only [hwn]
        rw [hwn] at hce hcD hfD
        go_region
        go_wp2
        go_roundw
        case rel =>
          obtain ⟨hset, hch2, hji, hd, he, hD, hE, hu⟩ := HS.out
          rw [hwn] at hset hch2
          have h3 := own_set hset i (.int .u32 ((D + E : Nat) : Int)) (by omega)
          have h4 : (lst (n + 1) (shU (2 ^ s) (2 ^ (32 - s)) la (i + 1))).set i (D + E) = lst (n + 1) (shU (2 ^ s) (2 ^ (32 - s)) la i) := by rw [shU_next la hd hD he hji hu hE, shU_set]
          rw [nv_set, List.set_set, h4] at h3
          exact ⟨i, by rw [hij2], by omega, h3, (hch2.setCell (p := ⟨g, i, none⟩) (fun _ => rfl) _).drew⟩
        case measure => simp [intOf]; omega
      · have hor : i = 0 ∨ s = 0 := by omega
        have HS := Lib.hid (And.intro hset (And.intro hch2 (And.intro hd (And.intro hda (And.intro hD hor)))))
        have fin : ∃ k : Nat, Value.int .i64 ((i : Int) - 1) = .int .i64 ((k : Int) - 1) ∧ k ≤ n + 1 ∧ Hid ((wo.setCell ⟨g, i, none⟩ (.int .u32 (D : Int))).ownsRow g 69 1 (.slice (some ⟨g, 0, none⟩) (n + 1) (n + 1)) (n + 1) (nv .u32 (lst (n + 1) (shU (2 ^ s) (2 ^ (32 - s)) la k))) ∧ Chg (fun j => j = g) w1 (wo.setCell ⟨g, i, none⟩ (.int .u32 (D : Int)))) := by
          refine ⟨i, rfl, by omega, ?_, hch2⟩
          have h4 : (lst (n + 1) (shU (2 ^ s) (2 ^ (32 - s)) la (i + 1))).set i D = lst (n + 1) (shU (2 ^ s) (2 ^ (32 - s)) la i) := by rw [shU_last la hda hd hD hor, shU_set]
          rwa [h4] at hset
        have HF := Lib.hid fin
        clear hset hch2 hd hD hown hch ha hda hla hij hcase h0 fin
        rcases hor with h | h
        · have hi0 : decide ((0 : Int) < (i : Int)) = false := by simp; omega
          have hi1 : decide (0 < i) = false := by simp; omega
          clear h
          go_wp2
          go_roundw
          case rel => exact HF.out
          case measure => simp [intOf]
        · have hs0 : decide ((0 : Int) < (s : Int)) = false := by simp; omega
          have hs1 : decide (0 < s) = false := by simp; omega
          clear h
          by_cases hi : 0 < i
          · go_wp2
            go_roundw
            case rel => exact HF.out
            case measure => simp [intOf]
          · have hi0 : decide ((0 : Int) < (i : Int)) = false := by simp; omega
            have hi1 : decide (0 < i) = false := by simp; omega
            clear hi
            go_wp2
            go_roundw
            case rel => exact HF.out
            case measure => simp [intOf]
end Go.Proofs.YtblcaeoeeepajaaGreatDoor

namespace Go.Dig
set_option linter.unusedVariables false

/-- A list moved down by s bits (P = 2^s, P * Q = B). -/
def low (B P Q : Nat) : List Nat → List Nat
  | [] => []
  | d :: t => (d / P + dg t 0 * Q % B) :: low B P Q t
theorem low_len (B P Q : Nat) (l : List Nat) : (low B P Q l).length = l.length := by
  induction l with
  | nil => rfl
  | cons d t ih => simp [low, ih]
theorem dg_cons (d : Nat) (t : List Nat) (i : Nat) : dg (d :: t) (i + 1) = dg t i := by simp [dg]
theorem low_at (B P Q : Nat) (l : List Nat) (i : Nat) (h : i < l.length) : (low B P Q l)[i]? = some (dg l i / P + dg l (i + 1) * Q % B) := by
  induction l generalizing i with
  | nil => simp at h
  | cons d t ih =>
    cases i with
    | zero => simp [low, dg]
    | succ i => rw [low, List.getElem?_cons_succ, ih i (by simpa using h), dg_cons, dg_cons]
theorem low_val {B P Q : Nat} (hPQ : P * Q = B) (hP : 1 ≤ P) (hQ : 1 ≤ Q) (l : List Nat) : val B (low B P Q l) = val B l / P := by
  induction l with
  | nil => simp [low]
  | cons d t ih =>
    rw [low, val_cons, ih, val_cons]
    have e0 : (d + B * val B t) / P = d / P + Q * val B t := by
      rw [← hPQ, Nat.mul_assoc, Nat.add_mul_div_left _ _ (by omega)]
    have e1 : val B t = dg t 0 + B * val B (t.drop 1) := by
      have := val_drop_dg B t 0
      rwa [List.drop_zero] at this
    rw [e0, Nat.add_assoc]
    congr 1
    have e2 : val B t / P = dg t 0 / P + Q * val B (t.drop 1) := by
      rw [e1, ← hPQ, Nat.mul_assoc, Nat.add_mul_div_left _ _ (by omega)]
    have e3 : dg t 0 * Q = dg t 0 * Q % B + B * (dg t 0 / P) := by
      have h1 : dg t 0 * Q / B = dg t 0 / P := by rw [← hPQ, Nat.mul_div_mul_right _ _ (by omega)]
      have h2 := Nat.div_add_mod (dg t 0 * Q) B
      rw [h1] at h2
      omega
    rw [e2, Nat.mul_add, ← Nat.add_assoc, ← e3, ← Nat.mul_assoc B Q, Nat.mul_comm B Q, Nat.mul_assoc Q B, Nat.mul_comm (dg t 0) Q, ← Nat.mul_add, ← e1]
theorem low_digs {B P Q : Nat} (hPQ : P * Q = B) (hP : 1 ≤ P) (hQ : 1 ≤ Q) {l : List Nat} (h : Digs B l) : Digs B (low B P Q l) := by
  induction l with
  | nil => exact Digs.nil B
  | cons d t ih =>
    refine Digs.cons ?_ (ih (fun x hx => h x (List.mem_cons_of_mem _ hx)))
    have hB : 1 ≤ B := by rw [← hPQ]; exact Nat.mul_pos hP hQ
    have h1 : d / P < Q := by
      rw [Nat.div_lt_iff_lt_mul (by omega), Nat.mul_comm, hPQ]
      exact h d (List.mem_cons_self ..)
    have h2 : dg t 0 * Q % B + Q ≤ B := by
      have : dg t 0 * Q % B = (dg t 0 % P) * Q := by rw [← hPQ, Nat.mul_mod_mul_right]
      rw [this]
      have h3 := Nat.mod_lt (dg t 0) (show 0 < P by omega)
      calc dg t 0 % P * Q + Q = (dg t 0 % P + 1) * Q := by rw [Nat.add_mul, Nat.one_mul]
        _ ≤ P * Q := Nat.mul_le_mul_right _ h3
        _ = B := hPQ
    omega
end Go.Dig

namespace Go.Dig
set_option linter.unusedVariables false
/-- The row on the way of lowering its first n digits. -/
def lwL (s n : Nat) (L : List Nat) (k : Nat) : List Nat := (low 4294967296 (2 ^ s) (2 ^ (32 - s)) (L.take n)).take k ++ L.drop k
theorem lwL_set {s n i v : Nat} {L : List Nat} (hi : i < n) (hn : n ≤ L.length) (hv : dg (L.take n) i / 2 ^ s + dg (L.take n) (i + 1) * 2 ^ (32 - s) % 4294967296 = v) : (lwL s n L i).set i v = lwL s n L (i + 1) := by
  have hl : (L.take n).length = n := by simp; omega
  have h1 := low_at 4294967296 (2 ^ s) (2 ^ (32 - s)) (L.take n) i (by omega)
  rw [hv] at h1
  unfold lwL
  have h2 : ((low 4294967296 (2 ^ s) (2 ^ (32 - s)) (L.take n)).take i).length = i := by rw [List.length_take, low_len, hl]; omega
  obtain ⟨hh, hx⟩ := List.getElem?_eq_some_iff.1 h1
  rw [List.set_append_right _ _ (by omega), h2, Nat.sub_self, List.drop_eq_getElem_cons (show i < L.length by omega), List.set_cons_zero, List.take_add_one, h1, List.append_assoc]
  rfl
theorem lwL_at {s n i j : Nat} {L : List Nat} (hi : i ≤ j) (hj : j < n) (hn : n ≤ L.length) : (lwL s n L i)[j]? = some (dg (L.take n) j) := by
  have hl : (L.take n).length = n := by simp; omega
  unfold lwL
  have h2 : ((low 4294967296 (2 ^ s) (2 ^ (32 - s)) (L.take n)).take i).length = i := by rw [List.length_take, low_len, hl]; omega
  rw [List.getElem?_append_right (by omega), h2, List.getElem?_drop, show i + (j - i) = j by omega, List.getElem?_eq_getElem (by omega)]
  simp [dg, hj, show j < L.length by omega]
theorem lw_next {s d D E e i n u : Nat} (L : List Nat) (hd : dg (L.take n) i = d) (hD : d / 2 ^ s = D) (he : dg (L.take n) (i + 1) = e) (hu : 32 - s = u) (hE : e * 2 ^ u % 4294967296 = E) : dg (L.take n) i / 2 ^ s + dg (L.take n) (i + 1) * 2 ^ (32 - s) % 4294967296 = D + E := by
  rw [hd, hD, he, hu, hE]
theorem lw_last {s d D i n : Nat} (L : List Nat) (hn : n ≤ L.length) (hd : dg (L.take n) i = d) (hD : d / 2 ^ s = D) (h : n ≤ i + 1 ∨ s = 0) : dg (L.take n) i / 2 ^ s + dg (L.take n) (i + 1) * 2 ^ (32 - s) % 4294967296 = D := by
  rw [hd, hD]
  rcases h with h | h
  · rw [dg_none (by simp; omega)]; simp
  · subst h
    rw [show (2 : Nat) ^ (32 - 0) = 4294967296 by rfl, Nat.mul_mod_left]; rfl
end Go.Dig
namespace Go.Proofs.YtblcaeoeeepajaaGreatDoor
set_option linter.unusedVariables false
open Go.RowKit Go.Mem Go.Dig Go.Pure
theorem or_disj2 {s u d e D E : Nat} (hs : s + u = 32) (hd : d < 4294967296) (hD : d / 2 ^ s = D) (hE : e * 2 ^ u % 4294967296 = E) : bits .or .u32 (D : Int) (E : Int) = ((D + E : Nat) : Int) := by
  have h := or_disj (s := u) (u := s) (by omega) hd hE hD
  have h1 : D < 4294967296 := by
    rw [← hD]; exact Nat.lt_of_le_of_lt (Nat.div_le_self _ _) hd
  have h2 : E < 4294967296 := by omega
  rw [u32_or_nat _ _ h2 h1] at h
  rw [u32_or_nat _ _ h1 h2, Nat.or_comm, h]
  omega

set_option maxRecDepth 100000 in
set_option maxHeartbeats 2000000 in
theorem lowered_any (g n N s : Nat) (L : List Nat) (w : World) (hown : w.ownsRow g 69 1 (.slice (some ⟨g, 0, none⟩) N N) N (nv .u32 L)) (hdL : Digs 4294967296 L) (hnN : n ≤ N) (hN : N ≤ 1000000) (hs : s < 32) :
    Calls Tryz.prog 83 #[.slice (some ⟨g, 0, none⟩) n N, .int .i64 s] w fun e w' => e = .returned (.slice (some ⟨g, 0, none⟩) n N) ∧ Hid (w'.ownsRow g 69 1 (.slice (some ⟨g, 0, none⟩) N N) N (nv .u32 (lwL s n L n)) ∧ Chg (fun k => k = g) w w') := by
  have hla : L.length = N := by have := hown.1; rw [nv_length] at this; omega
  have H0 := Lib.hid (And.intro hown (And.intro hdL hla))
  clear hown hdL hla
  go_enter Tryz.func83, Tryz.ntmps83
  go_wp2
  go_loopw [8, 5] (fun i i' wr => ∃ k : Nat, i = .int .i64 (k : Int) ∧ k ≤ n ∧ Hid (wr.ownsRow g 69 1 (.slice (some ⟨g, 0, none⟩) N N) N (nv .u32 (lwL s n L k)) ∧ Chg (fun j => j = g) w wr)) (fun i _ _ => n - (intOf i).toNat)
  case atStart =>
    obtain ⟨hown, hdL, hla⟩ := H0.out
    refine ⟨0, by simp, Nat.zero_le _, ?_, Chg.refl _ _⟩
    simpa [lwL] using hown
  case round =>
    obtain ⟨k, rfl, hk, HO⟩ := hrel
    by_cases h0 : k = n
    · subst h0
      go_wp2
      go_ret
      exact ⟨rfl, HO⟩
    · have hin : k < n := by omega
      obtain ⟨wo, rfl⟩ : ∃ wo : World, wo = wr := ⟨_, rfl⟩
      obtain ⟨ho, hda, hla⟩ := H0.out
      obtain ⟨hown, hch⟩ := HO.out
      obtain ⟨d, hd⟩ : ∃ d, dg (L.take n) k = d := ⟨_, rfl⟩
      have hdb : d < 4294967296 := by rw [← hd]; exact dg_lt (hda.take n) (by omega) k
      have hat := lwL_at (s := s) (Nat.le_refl k) hin (by omega : n ≤ L.length)
      have hcz := own_cell hown (i := k) (u := .int .u32 (d : Nat)) (by rw [nv, List.getElem?_map, hat, hd]; rfl)
      have hfz := own_frz hown (by omega) k
      have hkn : (k : Int) < (n : Int) := by omega
      obtain ⟨D, hD⟩ : ∃ D, d / 2 ^ s = D := ⟨_, rfl⟩
      have hDi : (d : Int) / 2 ^ s = (D : Int) := by rw [← hD]; simp
      have hDb : D < 4294967296 := by rw [← hD]; exact Nat.lt_of_le_of_lt (Nat.div_le_self _ _) hdb
      have hset := own_set hown k (.int .u32 (D : Int)) (by omega)
      rw [nv_set] at hset
      have hch2 := hch.setCell (p := ⟨g, k, none⟩) (fun _ => rfl) (.int .u32 (D : Int))
      by_cases hcase : k + 1 < n ∧ 0 < s
      · obtain ⟨e, he⟩ : ∃ e, dg (L.take n) (k + 1) = e := ⟨_, rfl⟩
        have hat2 := lwL_at (s := s) (Nat.le_succ k) hcase.1 (by omega : n ≤ L.length)
        have hce := own_cell hset (i := k + 1) (u := .int .u32 (e : Nat)) (by rw [nv, List.getElem?_map, List.getElem?_set_ne (by omega), hat2, he]; rfl)
        have hcD := own_cell hset (i := k) (u := .int .u32 (D : Nat)) (by rw [nv, List.getElem?_map, List.getElem?_set_self (by simp only [lwL, List.length_append, List.length_take, List.length_drop, low_len]; omega)]; rfl)
        have hfD := own_frz hset (by omega) k
        obtain ⟨u, hu⟩ : ∃ u, 32 - s = u := ⟨_, rfl⟩
        have hui : (32 : Int) - (s : Int) = (u : Int) := by omega
        obtain ⟨j, hj⟩ : ∃ j, k + 1 = j := ⟨_, rfl⟩
        have hij2 : (k : Int) + 1 = (j : Int) := by omega
        have hjn : (j : Int) < (n : Int) := by omega
        rw [hj] at hce
        obtain ⟨E, hE⟩ : ∃ E, e * 2 ^ u % 4294967296 = E := ⟨_, rfl⟩
        have hEi : (e : Int) * 2 ^ u % 4294967296 = (E : Int) := by rw [← hE]; simp
        have hor : bits .or .u32 (D : Int) (E : Int) = ((D + E : Nat) : Int) := or_disj2 (by omega) hdb hD hE
        have hu32 : u < 32 := by omega
        have hs0 : (0 : Int) < (s : Int) := by omega
        have hj0 : k < n - 0 := by omega
        have HS := Lib.hid (And.intro hset (And.intro hch2 (And.intro hj (And.intro hd (And.intro he (And.intro hD (And.intro hE (And.intro hu hla))))))))
        have hjn2 : j < n := by omega
        clear hset hch2 hj hd he hD hE hu hown hch ho hda hla hcase h0 hj0 hat hat2
        go_wp2
        obtain ⟨wn, hwn⟩ : ∃ wn : World, wo.setCell ⟨g, k, none⟩ (.int .u32 (D : Int)) = wn := ⟨_, rfl⟩
        simp only [hwn]
        rw [hwn] at hce hcD hfD
        go_region
        go_wp2
        go_roundw
        case rel =>
          obtain ⟨hset, hch2, hji, hd, he, hD, hE, hu, hla⟩ := HS.out
          rw [hwn] at hset hch2
          have h3 := own_set hset k (.int .u32 ((D + E : Nat) : Int)) (by omega)
          rw [nv_set, List.set_set, lwL_set hin (by omega) (lw_next L hd hD he hu hE)] at h3
          exact ⟨k + 1, by rw [← hij2]; rfl, by omega, h3, (hch2.setCell (p := ⟨g, k, none⟩) (fun _ => rfl) _).drew⟩
        case measure => simp [intOf]; omega
      · have hor : n ≤ k + 1 ∨ s = 0 := by omega
        have hset2 := hset
        rw [lwL_set hin (by omega) (lw_last L (by omega) hd hD hor)] at hset2
        have HF := Lib.hid (And.intro hset2 hch2)
        clear hset hset2 hch2 hd hD hown hch ho hda hla hcase h0 hat
        rcases hor with h | h
        · have hi0 : decide ((k : Int) + 1 < (n : Int)) = false := by simp; omega
          have hi1 : decide (k + 1 < n) = false := by simp; omega
          clear h
          go_wp2
          go_roundw
          case rel => exact ⟨k + 1, by simp, by omega, HF.out⟩
          case measure => simp [intOf]; omega
        · have hs0 : decide ((0 : Int) < (s : Int)) = false := by simp; omega
          have hs1 : decide (0 < s) = false := by simp; omega
          clear h
          by_cases hi : k + 1 < n
          · go_wp2
            go_roundw
            case rel => exact ⟨k + 1, by simp, by omega, HF.out⟩
            case measure => simp [intOf]; omega
          · have hi0 : decide ((k : Int) + 1 < (n : Int)) = false := by simp; omega
            have hi1 : decide (k + 1 < n) = false := by simp; omega
            clear hi
            go_wp2
            go_roundw
            case rel => exact ⟨k + 1, by simp, by omega, HF.out⟩
            case measure => simp [intOf]; omega
end Go.Proofs.YtblcaeoeeepajaaGreatDoor

namespace Go.Proofs.YtblcaeoeeepajaaGreatDoor
set_option linter.unusedVariables false
open Go.RowKit Go.Mem Go.Dig Go.Pure

set_option maxRecDepth 100000 in
set_option maxHeartbeats 1000000 in
/-- The closure step of takeAway. -/
theorem takeStep_any (i m cap j N y c q br d : Nat) (l : List Nat) (hi : i < m) (hj : j + m ≤ N) (hN : N ≤ 1000000) (hy : y < 4294967296) (hc : c < 4294967296) (hq : q < 4294967296) (hbr : br ≤ 1) (gc gd gb ga g : Nat) (n1 : g < ga) (n2 : ga < gd) (n3 : gd < gc) (n4 : gc < gb)
    (w : World) (bc : Blk w gc 67 #[.int .u64 c]) (bd : Blk w gd 67 #[.int .u64 q]) (bb : Blk w gb 67 #[.int .u64 br]) (ba : Blk w ga 27 #[.slice (some ⟨g, j, none⟩) m cap])
    (hown : w.ownsRow g 69 1 (.slice (some ⟨g, 0, none⟩) N N) N (nv .u32 l)) (hd : l[j + i]? = some d) (hdb : d < 4294967296) :
    Calls Tryz.prog 103 #[.int .i64 i, .int .u32 y, .pointer (some ⟨gc, 0, none⟩), .pointer (some ⟨gd, 0, none⟩), .pointer (some ⟨gb, 0, none⟩), .pointer (some ⟨ga, 0, none⟩)] w fun e w' => (∃ v, e = .returned v) ∧ ∃ v c' b : Nat, v < 4294967296 ∧ c' < 4294967296 ∧ c' = (c + q * y) / 4294967296 ∧ b ≤ 1 ∧ v + (c + q * y) + br = d + 4294967296 * (c' + b) ∧
      Blk w' gc 67 #[.int .u64 c'] ∧ Blk w' gb 67 #[.int .u64 b] ∧ w'.ownsRow g 69 1 (.slice (some ⟨g, 0, none⟩) N N) N (nv .u32 (l.set (j + i) v)) ∧ Chg (fun k => k = gc ∨ k = gb ∨ k = g) w w' := by
  have hkc := bc.cell 0 (u := .int .u64 c) rfl
  have hfc := bc.frozen 0
  have hkd := bd.cell 0 (u := .int .u64 q) rfl
  have hkb := bb.cell 0 (u := .int .u64 br) rfl
  have hfb := bb.frozen 0
  have hka := ba.cell 0 (u := .slice (some ⟨g, j, none⟩) m cap) rfl
  have hkz := own_cell hown (i := j + i) (u := .int .u32 (d : Nat)) (by rw [nv, List.getElem?_map, hd]; rfl)
  have hfz := own_frz hown (by omega) (j + i)
  obtain ⟨M, hM⟩ : ∃ M, q * y = M := ⟨_, rfl⟩
  have hMb : M ≤ 18446744065119617025 := by rw [← hM]; exact Nat.mul_le_mul (show q ≤ 4294967295 by omega) (show y ≤ 4294967295 by omega)
  have hMi : (q : Int) * (y : Int) = (M : Int) := by rw [← hM]; simp
  obtain ⟨C, hC⟩ : ∃ C, c + M = C := ⟨_, rfl⟩
  have hCi : (c : Int) + (M : Int) = (C : Int) := by omega
  have hCb : C ≤ 18446744069414584320 := by omega
  obtain ⟨c', hc'⟩ : ∃ c', C / 4294967296 = c' := ⟨_, rfl⟩
  have hci' : (C : Int) / 4294967296 = (c' : Int) := by omega
  obtain ⟨lo, hlo⟩ : ∃ lo, C % 4294967296 = lo := ⟨_, rfl⟩
  have hloi : (C : Int) % 4294967296 = (lo : Int) := by omega
  have hand : bits .and .u64 (C : Int) 4294967295 = (lo : Int) := by
    rw [show (4294967295 : Int) = ((4294967295 : Nat) : Int) by rfl, u64_and_nat _ _ (by omega) (by omega), show 4294967295 = 2 ^ 32 - 1 by rfl, Nat.and_two_pow_sub_one_eq_mod, ← hlo]
  obtain ⟨t, ht⟩ : ∃ t, lo + br = t := ⟨_, rfl⟩
  have hti : (lo : Int) + (br : Int) = (t : Int) := by omega
  have htb : t ≤ 4294967296 := by omega
  rw [hM]
  have e1 : gc ≠ gd := by omega
  have e2 : gc ≠ gb := by omega
  have e3 : gc ≠ ga := by omega
  have e4 : gb ≠ ga := by omega
  have e5 : gc ≠ g := by omega
  have e6 : gb ≠ g := by omega
  have hii : (i : Int) < (m : Int) := by omega
  have HB := Lib.hid (And.intro bc (And.intro bb (And.intro hown (And.intro hC (And.intro hc' (And.intro hlo ht))))))
  have hc4 : c' < 4294967296 := by omega
  clear bc bb hown bd ba hd hC hc' hlo ht hM
  by_cases hlt : d < t
  · have hgt : (d : Int) < (t : Int) := by omega
    obtain ⟨v, hv⟩ : ∃ v, d + 4294967296 - t = v := ⟨_, rfl⟩
    have hvw : IntKind.u32.wrap ((d : Int) - (t : Int) % 4294967296) = (v : Int) := subWrap hdb htb (b := 1) (by omega) (by omega) (by omega)
    have HV : Hid (v < 4294967296 ∧ v + t = d + 4294967296) := ⟨by omega, by omega⟩
    have hvw2 : ((d : Int) - (t : Int)) % 4294967296 = (v : Int) := by omega
    clear hv
    go_enter Tryz.func103, Tryz.ntmps103
    go_wp2
    obtain ⟨bc, bb, hown, hC, hc', hlo, ht⟩ := HB.out
    refine bodyPost_end (results_none rfl _ _ _) rfl ⟨⟨_, rfl⟩, v, c', 1, HV.out.1, hc4, by rw [← hc', ← hC], by omega, by have := HV.out.2; omega, ?_, ?_, ?_, ?_⟩
    · exact (((((bc.set1 _).set1 _).far (p := ⟨gb, 0, none⟩) e2 _).far (p := ⟨gb, 0, none⟩) e2 _).far (p := ⟨g, j + i, none⟩) e5 _)
    · exact ((((bb.far (p := ⟨gc, 0, none⟩) e2.symm _).far (p := ⟨gc, 0, none⟩) e2.symm _).set1 _).set1 (.int .u64 ((1 : Nat) : Int))).far (p := ⟨g, j + i, none⟩) e6 _
    · have hA : Chg (fun k => k = gc ∨ k = gb) w ((((w.setCell ⟨gc, 0, none⟩ (.int .u64 (C : Int))).setCell ⟨gc, 0, none⟩ (.int .u64 (c' : Int))).setCell ⟨gb, 0, none⟩ (.int .u64 0)).setCell ⟨gb, 0, none⟩ (.int .u64 1)) := ((((Chg.refl _ w).setCell (p := ⟨gc, 0, none⟩) (fun _ => .inl rfl) _).setCell (p := ⟨gc, 0, none⟩) (fun _ => .inl rfl) _).setCell (p := ⟨gb, 0, none⟩) (fun _ => .inr rfl) _).setCell (p := ⟨gb, 0, none⟩) (fun _ => .inr rfl) _
      have h2 := own_set (own_chg hown hA (fun k hk e => by simp [blk] at hk; omega)) (j + i) (.int .u32 (v : Int)) (by omega)
      rwa [nv_set] at h2
    · exact (((((Chg.refl _ w).setCell (p := ⟨gc, 0, none⟩) (fun _ => .inl rfl) _).setCell (p := ⟨gc, 0, none⟩) (fun _ => .inl rfl) _).setCell (p := ⟨gb, 0, none⟩) (fun _ => .inr (.inl rfl)) _).setCell (p := ⟨gb, 0, none⟩) (fun _ => .inr (.inl rfl)) _).setCell (p := ⟨g, j + i, none⟩) (fun _ => .inr (.inr rfl)) _
  · have hgt : decide ((d : Int) < (t : Int)) = false := by simp; omega
    have hgt' : decide (d < t) = false := by simp; omega
    obtain ⟨v, hv⟩ : ∃ v, d - t = v := ⟨_, rfl⟩
    have hvw : (d : Int) - (t : Int) = (v : Int) := by omega
    have htm : (t : Int) % 4294967296 = (t : Int) := by omega
    have HV : Hid (v < 4294967296 ∧ v + t = d) := ⟨by omega, by omega⟩
    have htd : t ≤ d := by omega
    have hvb : v < 4294967296 := by omega
    clear hv
    go_enter Tryz.func103, Tryz.ntmps103
    go_wp2
    obtain ⟨bc, bb, hown, hC, hc', hlo, ht⟩ := HB.out
    refine bodyPost_end (results_none rfl _ _ _) rfl ⟨⟨_, rfl⟩, v, c', 0, HV.out.1, hc4, by rw [← hc', ← hC], by omega, by have := HV.out.2; omega, ?_, ?_, ?_, ?_⟩
    · exact ((((bc.set1 _).set1 _).far (p := ⟨gb, 0, none⟩) e2 _).far (p := ⟨g, j + i, none⟩) e5 _)
    · exact (((bb.far (p := ⟨gc, 0, none⟩) e2.symm _).far (p := ⟨gc, 0, none⟩) e2.symm _).set1 (.int .u64 ((0 : Nat) : Int))).far (p := ⟨g, j + i, none⟩) e6 _
    · have hA : Chg (fun k => k = gc ∨ k = gb) w (((w.setCell ⟨gc, 0, none⟩ (.int .u64 (C : Int))).setCell ⟨gc, 0, none⟩ (.int .u64 (c' : Int))).setCell ⟨gb, 0, none⟩ (.int .u64 0)) := (((Chg.refl _ w).setCell (p := ⟨gc, 0, none⟩) (fun _ => .inl rfl) _).setCell (p := ⟨gc, 0, none⟩) (fun _ => .inl rfl) _).setCell (p := ⟨gb, 0, none⟩) (fun _ => .inr rfl) _
      have h2 := own_set (own_chg hown hA (fun k hk e => by simp [blk] at hk; omega)) (j + i) (.int .u32 (v : Int)) (by omega)
      rwa [nv_set] at h2
    · exact ((((Chg.refl _ w).setCell (p := ⟨gc, 0, none⟩) (fun _ => .inl rfl) _).setCell (p := ⟨gc, 0, none⟩) (fun _ => .inl rfl) _).setCell (p := ⟨gb, 0, none⟩) (fun _ => .inr (.inl rfl)) _).setCell (p := ⟨g, j + i, none⟩) (fun _ => .inr (.inr rfl)) _

set_option maxRecDepth 100000 in
set_option maxHeartbeats 1000000 in
/-- The closure back of takeAway. -/
theorem takeBack_any (i m cap j N y c d : Nat) (l : List Nat) (hi : i < m) (hj : j + m ≤ N) (hN : N ≤ 1000000) (hy : y < 4294967296) (hc : c ≤ 1) (gc ga g : Nat) (n1 : g < ga) (n2 : ga < gc)
    (w : World) (bc : Blk w gc 67 #[.int .u64 c]) (ba : Blk w ga 27 #[.slice (some ⟨g, j, none⟩) m cap])
    (hown : w.ownsRow g 69 1 (.slice (some ⟨g, 0, none⟩) N N) N (nv .u32 l)) (hd : l[j + i]? = some d) (hdb : d < 4294967296) :
    Calls Tryz.prog 104 #[.int .i64 i, .int .u32 y, .pointer (some ⟨gc, 0, none⟩), .pointer (some ⟨ga, 0, none⟩)] w fun e w' => (∃ v, e = .returned v) ∧ ∃ v c' : Nat, v < 4294967296 ∧ c' ≤ 1 ∧ d + y + c = v + 4294967296 * c' ∧
      Blk w' gc 67 #[.int .u64 c'] ∧ w'.ownsRow g 69 1 (.slice (some ⟨g, 0, none⟩) N N) N (nv .u32 (l.set (j + i) v)) ∧ Chg (fun k => k = gc ∨ k = g) w w' := by
  have hkc := bc.cell 0 (u := .int .u64 c) rfl
  have hfc := bc.frozen 0
  have hka := ba.cell 0 (u := .slice (some ⟨g, j, none⟩) m cap) rfl
  have hkz := own_cell hown (i := j + i) (u := .int .u32 (d : Nat)) (by rw [nv, List.getElem?_map, hd]; rfl)
  have hfz := own_frz hown (by omega) (j + i)
  obtain ⟨M, hM⟩ : ∃ M, d + y = M := ⟨_, rfl⟩
  have hMb : M ≤ 8589934590 := by omega
  have hMi : (d : Int) + (y : Int) = (M : Int) := by omega
  obtain ⟨C, hC⟩ : ∃ C, c + M = C := ⟨_, rfl⟩
  have hCi : (c : Int) + (M : Int) = (C : Int) := by omega
  have hCb : C ≤ 8589934591 := by omega
  obtain ⟨c', hc'⟩ : ∃ c', C / 4294967296 = c' := ⟨_, rfl⟩
  have hci' : (C : Int) / 4294967296 = (c' : Int) := by omega
  obtain ⟨v, hv⟩ : ∃ v, C % 4294967296 = v := ⟨_, rfl⟩
  have hvi : (C : Int) % 4294967296 = (v : Int) := by omega
  have e3 : gc ≠ ga := by omega
  have e5 : gc ≠ g := by omega
  have hii : (i : Int) < (m : Int) := by omega
  have HB := Lib.hid (And.intro bc (And.intro hown (And.intro hM (And.intro hC (And.intro hc' hv)))))
  clear bc hown ba hd hC hc' hv hM
  go_enter Tryz.func104, Tryz.ntmps104
  go_wp2
  go_region
  go_wp2
  obtain ⟨bc, hown, hM, hC, hc', hv⟩ := HB.out
  refine bodyPost_end (results_none rfl _ _ _) rfl ⟨⟨_, rfl⟩, v, c', by omega, by omega, by omega, ?_, ?_, ?_⟩
  · exact (((bc.set1 _).far (p := ⟨g, j + i, none⟩) e5 _).set1 _).drew
  · have hA : Chg (fun k => k = gc) w (w.setCell ⟨gc, 0, none⟩ (.int .u64 (C : Int))) := (Chg.refl (fun k => k = gc) w).setCell (p := ⟨gc, 0, none⟩) (fun _ => rfl) _
    have h2 := own_set (own_chg hown hA (fun k hk e => by simp [blk] at hk; omega)) (j + i) (.int .u32 (v : Int)) (by omega)
    rw [nv_set] at h2
    exact own_chg h2 (((Chg.refl (fun k => k = gc) _).setCell (p := ⟨gc, 0, none⟩) (fun _ => rfl) _).drew) (fun k hk e => by simp [blk] at hk; omega)
  · exact ((((Chg.refl _ w).setCell (p := ⟨gc, 0, none⟩) (fun _ => .inl rfl) _).setCell (p := ⟨g, j + i, none⟩) (fun _ => .inr rfl) _).setCell (p := ⟨gc, 0, none⟩) (fun _ => .inl rfl) _).drew
end Go.Proofs.YtblcaeoeeepajaaGreatDoor

namespace Go.Dig
set_option linter.unusedVariables false

theorem tk_back {B : Nat} {o rest lb o2 : List Nat} {c D U q m : Nat} (hlen : o.length = m) (h : AddI B (o ++ rest) lb m o2 c) (hlb : lb.length ≤ m) (hD : val B lb = D) (ho : val B o + q * D = U + B ^ m) (hqD : q * D ≤ U + D) (hlt : U < q * D) (hDm : D ≤ B ^ m) : val B o2 = U + D - q * D := by
  have e := h.eq
  rw [List.take_left' hlen, List.take_of_length_le hlb, hD] at e
  have h1 := val_lt h.digs
  rw [h.len] at h1
  rcases (show c = 0 ∨ c = 1 by have := h.carry; omega) with h0 | h0
  · subst h0; rw [Nat.mul_zero] at e; omega
  · subst h0; rw [Nat.mul_one] at e; omega

/-- The state of the long division behind the digits from k on. -/
structure KnI (B X D N n k : Nat) (L q : List Nat) : Prop where
  len : L.length = N
  digs : Digs B L
  qlen : q.length = N - n
  qdigs : Digs B q
  low : val B (L.drop k) < D
  eq : X = val B L + D * (B ^ k * val B (q.drop k))
theorem KnI.start {B X D N n : Nat} {L : List Nat} (hB : 1 ≤ B) (hl : L.length = N) (hd : Digs B L) (hX : val B L = X) (hlow : val B (L.drop (N - n)) < D) : KnI B X D N n (N - n) L (List.replicate (N - n) 0) := by
  refine ⟨hl, hd, by simp, Digs.zeros hB _, hlow, ?_⟩
  rw [List.drop_replicate, val_zeros, hX]
  omega
/-- The digits above the window are 0. -/
theorem KnI.up {B X D N n j : Nat} {L q : List Nat} (hB : 1 ≤ B) (h : KnI B X D N n (j + 1) L q) (hD : D ≤ B ^ n) {U : Nat} (hU : val B ((L.drop j).take (n + 1)) = U) : val B (L.drop j) = U ∧ U < B * D ∧ val B (L.drop (j + (n + 1))) = 0 := by
  have h1 := val_drop_dg B L j
  have h2 := dg_lt h.digs hB j
  have h3 := h.low
  have h4 : val B (L.drop j) < B * D := by
    have : B * (val B (L.drop (j + 1)) + 1) ≤ B * D := Nat.mul_le_mul_left _ h3
    rw [Nat.mul_add] at this
    omega
  have h5 : B * D ≤ B ^ (n + 1) := by
    rw [Nat.pow_succ, Nat.mul_comm]
    exact Nat.mul_le_mul_right _ hD
  have h6 : val B (L.drop j) = U + B ^ (n + 1) * val B (L.drop (j + (n + 1))) := by
    rcases Nat.lt_or_ge (L.drop j).length (n + 1) with hl | hl
    · rw [List.take_of_length_le (by omega)] at hU
      have : L.drop (j + (n + 1)) = [] := List.drop_eq_nil_of_le (by rw [List.length_drop] at hl; omega)
      rw [this, val_nil, hU]; omega
    · have := val_split B (L.drop j) (n + 1) hl
      rwa [hU, List.drop_drop] at this
  have h7 : val B (L.drop (j + (n + 1))) = 0 := by
    rcases Nat.eq_zero_or_pos (val B (L.drop (j + (n + 1)))) with h0 | h0
    · exact h0
    · have := Nat.le_mul_of_pos_right (B ^ (n + 1)) h0
      omega
  rw [h7, Nat.mul_zero, Nat.add_zero] at h6
  exact ⟨h6, by omega, h7⟩
theorem KnI.step {B X D N n j : Nat} {L q o : List Nat} (hB : 1 ≤ B) (h : KnI B X D N n (j + 1) L q) (hD : D ≤ B ^ n) (hD0 : 1 ≤ D) (hj : j + (n + 1) ≤ N) {U : Nat} (hU : val B ((L.drop j).take (n + 1)) = U) (ho : o.length = n + 1) (hod : Digs B o) (hov : val B o = U % D) :
    KnI B X D N n j ((L.take j ++ o) ++ L.drop (j + (n + 1))) (q.set j (U / D)) := by
  obtain ⟨h1, h2, h3⟩ := h.up hB hD hU
  have hlen := h.len
  have hq : U / D < B := by
    rw [Nat.div_lt_iff_lt_mul (by omega)]
    exact h2
  have hdrop : ((L.take j ++ o) ++ L.drop (j + (n + 1))).drop j = o ++ L.drop (j + (n + 1)) := by
    rw [List.append_assoc, List.drop_left' (by simp; omega)]
  have htake : ((L.take j ++ o) ++ L.drop (j + (n + 1))).take j = L.take j := by
    rw [List.append_assoc, List.take_left' (by simp; omega)]
  have hv : val B (o ++ L.drop (j + (n + 1))) = U % D := by rw [val_append, h3, Nat.mul_zero, Nat.add_zero, hov]
  refine ⟨by simp [ho]; omega, ((h.digs.take j).app hod).app (h.digs.drop _), by rw [List.length_set]; exact h.qlen, h.qdigs.set_ hq, by rw [hdrop, hv]; exact Nat.mod_lt _ (by omega), ?_⟩
  have hqj : j < q.length := by rw [h.qlen]; omega
  have e1 : val B ((q.set j (U / D)).drop j) = U / D + B * val B (q.drop (j + 1)) := by
    rw [List.drop_set, if_neg (by omega), Nat.sub_self, List.drop_eq_getElem_cons hqj, List.set_cons_zero, val_cons]
  have e2 : val B ((L.take j ++ o) ++ L.drop (j + (n + 1))) = val B (L.take j) + B ^ j * (U % D) := by
    rw [List.append_assoc, val_append, hv, List.length_take, Nat.min_eq_left (by omega)]
  have e3 : val B L = val B (L.take j) + B ^ j * U := by rw [val_split B L j (by omega), h1]
  rw [h.eq, e1, e2, e3, Nat.pow_succ]
  have e4 : B ^ j * U = B ^ j * (D * (U / D)) + B ^ j * (U % D) := by rw [← Nat.mul_add, Nat.div_add_mod]
  rw [e4, Nat.mul_add (B ^ j), Nat.mul_add D, ← Nat.mul_assoc (B ^ j) B, Nat.mul_left_comm D (B ^ j) (U / D)]
  omega
theorem KnI.done {B X D N n : Nat} {L q : List Nat} (h : KnI B X D N n 0 L q) : val B q = X / D ∧ val B L = X % D := by
  have h1 := h.eq
  have h2 := h.low
  rw [List.drop_zero] at h2
  rw [List.drop_zero, Nat.pow_zero, Nat.one_mul] at h1
  rw [h1]
  constructor
  · rw [Nat.add_mul_div_left _ _ (by omega), Nat.div_eq_of_lt h2, Nat.zero_add]
  · rw [Nat.add_mul_mod_self_left, Nat.mod_eq_of_lt h2]
/-- Three digits of the window and two of the divisor. -/
theorem win3 {B m j : Nat} (L : List Nat) : val B ((L.drop j).take (m + 3)) = val B ((L.drop j).take m) + B ^ m * (dg L (j + m) + B * (dg L (j + (m + 1)) + B * dg L (j + (m + 2)))) := by
  rw [val_take_dg, val_take_dg, val_take_dg, dg_drop', dg_drop', dg_drop']
  simp only [Nat.pow_succ, Nat.mul_add, ← Nat.mul_assoc]
  omega
where dg_drop' {l : List Nat} {j k : Nat} : dg (l.drop j) k = dg l (j + k) := by simp [dg, List.getElem?_drop]
theorem den2 {B m : Nat} (b : List Nat) (h : b.length = m + 2) : val B b = val B (b.take m) + B ^ m * (dg b m + B * dg b (m + 1)) := by
  have e : b = b.take (m + 2) := by rw [List.take_of_length_le (by omega)]
  rw [e, val_take_dg, val_take_dg, Nat.pow_succ, ← e]
  simp only [Nat.mul_add, ← Nat.mul_assoc]
  omega
theorem top_bounds {v P H : Nat} (h : v < P) : H * P ≤ v + P * H ∧ v + P * H < (H + 1) * P := by
  rw [Nat.add_mul, Nat.one_mul, Nat.mul_comm P H]
  omega
/-- The estimate's state. -/
structure EsI (B T ld nx u0 Q dgt rest : Nat) : Prop where
  eq : dgt * ld + rest = T
  low : Q ≤ dgt
/-- What the estimate leans on. -/
structure EsB (B U D P T ld nx u0 Q : Nat) : Prop where
  un : (T * B + u0) * P ≤ U
  uo : U < (T * B + u0 + 1) * P
  dn : (nx + B * ld) * P ≤ D
  do_ : D < (nx + B * ld + 1) * P
  bp : B * P ≤ D
  qn : Q * D ≤ U
  qo : U < (Q + 1) * D
  qb : Q < B
  tb : T < ld * B + B
  ld1 : 1 ≤ ld
  ldb : ld < B
  nxb : nx < B
  u0b : u0 < B
theorem EsI.start {B U D P T ld nx u0 Q : Nat} (h : EsB B U D P T ld nx u0 Q) (hP : 1 ≤ P) : EsI B T ld nx u0 Q (T / ld) (T % ld) := by
  have h1 := h.ld1
  refine ⟨by have := Nat.div_add_mod T ld; rw [Nat.mul_comm]; exact this, ?_⟩
  rw [Nat.le_div_iff_mul_le (by omega)]
  -- Q * ld * B * P ≤ Q * D ≤ U < (T * B + u0 + 1) * P
  rcases Nat.lt_or_ge T (Q * ld) with hlt | hge
  · exfalso
    have e1 : (T * B + u0 + 1) * P ≤ (Q * ld * B) * P := by
      apply Nat.mul_le_mul_right
      have : (T + 1) * B ≤ Q * ld * B := Nat.mul_le_mul_right _ hlt
      rw [Nat.add_mul, Nat.one_mul] at this
      have := h.u0b
      omega
    have e2 : (Q * ld * B) * P ≤ Q * D := by
      have : Q * ld * B * P = Q * (B * ld * P) := by
        rw [Nat.mul_assoc Q ld B, Nat.mul_assoc, Nat.mul_comm ld B]
      rw [this]
      apply Nat.mul_le_mul_left
      refine Nat.le_trans ?_ h.dn
      exact Nat.mul_le_mul_right _ (by omega)
    have := h.qn
    have := h.uo
    omega
  · exact hge
/-- While the test says so the estimate is too great. -/
theorem EsI.down {B U D P T ld nx u0 Q dgt rest : Nat} (hb : EsB B U D P T ld nx u0 Q) (h : EsI B T ld nx u0 Q dgt rest) (ht : B ≤ dgt ∨ rest * B + u0 < dgt * nx) : 1 ≤ dgt ∧ EsI B T ld nx u0 Q (dgt - 1) (rest + ld) := by
  have hlt : Q < dgt := by
    rcases ht with ht | ht
    · have := hb.qb; omega
    · refine est_hi (N := U) (D := D) (U3 := T * B + u0) (D2 := nx + B * ld) (P := P) hb.uo hb.dn ?_ hb.qn
      have e := h.eq
      have e2 : T * B = dgt * (B * ld) + rest * B := by
        rw [← e, Nat.add_mul, Nat.mul_assoc, Nat.mul_comm ld B]
      rw [e2, Nat.mul_add]
      omega
  refine ⟨by omega, ?_, by omega⟩
  have e := h.eq
  obtain ⟨d, rfl⟩ : ∃ d, dgt = d + 1 := ⟨dgt - 1, by omega⟩
  rw [Nat.add_mul, Nat.one_mul] at e
  rw [Nat.add_sub_cancel]
  omega
theorem EsI.exit {B U D P T ld nx u0 Q dgt rest : Nat} (hb : EsB B U D P T ld nx u0 Q) (h : EsI B T ld nx u0 Q dgt rest) (ht : (dgt < B ∧ dgt * nx ≤ rest * B + u0) ∨ B ≤ rest) : dgt < B ∧ Q ≤ dgt ∧ dgt ≤ Q + 1 := by
  have e := h.eq
  have hlt : dgt < B ∧ dgt * nx ≤ rest * B + u0 := by
    rcases ht with ht | ht
    · exact ht
    · have h1 : dgt < B := by
        have := hb.tb
        have h2 : dgt * ld < B * ld := by rw [Nat.mul_comm B ld]; omega
        exact Nat.lt_of_mul_lt_mul_right h2
      refine ⟨h1, ?_⟩
      have h2 : dgt * nx ≤ B * B := Nat.mul_le_mul (by omega) (by have := hb.nxb; omega)
      have h3 : B * B ≤ rest * B := Nat.mul_le_mul_right _ ht
      omega
  refine ⟨hlt.1, h.low, ?_⟩
  refine est_lo (N := U) (D := D) (U3 := T * B + u0) (D2 := nx + B * ld) (P := P) (B := B) hb.un hb.do_ hb.bp hlt.1 ?_ hb.qo
  have e2 : T * B = dgt * (B * ld) + rest * B := by
    rw [← e, Nat.add_mul, Nat.mul_assoc, Nat.mul_comm ld B]
  rw [e2, Nat.mul_add]
  omega
/-- What the settling finds. -/
theorem settle_val {U D Q dgt : Nat} (hD : 1 ≤ D) (hQ : U / D = Q) (h1 : Q ≤ dgt) (h2 : dgt ≤ Q + 1) : dgt * D ≤ U + D ∧ (U < dgt * D → U + D - dgt * D = U % D ∧ dgt - 1 = Q ∧ 1 ≤ dgt) ∧ (¬ U < dgt * D → U - dgt * D = U % D ∧ dgt = Q) := by
  have e := Nat.div_add_mod U D
  have l := Nat.mod_lt U (show 0 < D by omega)
  rw [hQ, Nat.mul_comm] at e
  rcases (show dgt = Q ∨ dgt = Q + 1 by omega) with h | h
  · subst h
    exact ⟨by omega, fun h => by omega, fun _ => ⟨by omega, rfl⟩⟩
  · subst h
    rw [Nat.add_mul, Nat.one_mul]
    exact ⟨by omega, fun _ => ⟨by omega, by omega, by omega⟩, fun h => by omega⟩
theorem KnI.esb {B X D N n m j : Nat} {L q b : List Nat} (hB : 2 ≤ B) (h : KnI B X D N n (j + 1) L q) (hn : n = m + 2) (hb : Digs B b) (hbl : b.length = n) (hbD : val B b = D) (hld : 1 ≤ dg b (m + 1)) {U : Nat} (hU : val B ((L.drop j).take (n + 1)) = U) :
    EsB B U D (B ^ m) (dg L (j + (m + 2)) * B + dg L (j + (m + 1))) (dg b (m + 1)) (dg b m) (dg L (j + m)) (U / D) := by
  subst hn
  have hDn : D ≤ B ^ (m + 2) := by have := val_lt hb; rw [hbD, hbl] at this; omega
  have hD2 := den2 (B := B) b hbl
  rw [hbD] at hD2
  have hU3 := win3 (B := B) (m := m) (j := j) L
  rw [show m + 3 = m + 2 + 1 by omega, hU] at hU3
  have t1 := top_bounds (H := dg L (j + m) + B * (dg L (j + (m + 1)) + B * dg L (j + (m + 2)))) (show val B ((L.drop j).take m) < B ^ m by
    have := val_lt ((h.digs.drop j).take m)
    refine Nat.lt_of_lt_of_le this (Nat.pow_le_pow_right (by omega) (by simp; omega)))
  have t2 := top_bounds (H := dg b m + B * dg b (m + 1)) (show val B (b.take m) < B ^ m by
    have := val_lt (hb.take m)
    refine Nat.lt_of_lt_of_le this (Nat.pow_le_pow_right (by omega) (by simp; omega)))
  rw [← hU3] at t1
  rw [← hD2] at t2
  have eT : (dg L (j + (m + 2)) * B + dg L (j + (m + 1))) * B + dg L (j + m) = dg L (j + m) + B * (dg L (j + (m + 1)) + B * dg L (j + (m + 2))) := by
    rw [Nat.mul_comm _ B, Nat.mul_comm _ B]
    simp only [Nat.mul_add]
    omega
  have hP : 1 ≤ B ^ m := Nat.one_le_pow _ _ (by omega)
  have hD1 : 1 ≤ D := by
    have : 1 * 1 ≤ (dg b m + B * dg b (m + 1)) * B ^ m := Nat.mul_le_mul (by have := Nat.mul_le_mul (show 1 ≤ B by omega) hld; omega) hP
    omega
  obtain ⟨u1, u2, u3⟩ := h.up (by omega) hDn hU
  refine ⟨by rw [eT]; exact t1.1, by rw [eT]; exact t1.2, t2.1, t2.2, ?_, Nat.div_mul_le_self _ _, ?_, ?_, ?_, hld, dg_lt hb (by omega) _, dg_lt hb (by omega) _, dg_lt h.digs (by omega) _⟩
  · refine Nat.le_trans (Nat.mul_le_mul_right _ ?_) t2.1
    have := Nat.mul_le_mul_left B hld
    omega
  · have := Nat.div_add_mod U D
    have l := Nat.mod_lt U (show 0 < D by omega)
    rw [Nat.add_mul, Nat.one_mul, Nat.mul_comm]
    omega
  · rw [Nat.div_lt_iff_lt_mul (by omega)]; exact u2
  · -- the top digit of the window is at most the divisor's
    have hle : dg L (j + (m + 2)) ≤ dg b (m + 1) := by
      rcases Nat.lt_or_ge (dg b (m + 1)) (dg L (j + (m + 2))) with hlt | hge
      · exfalso
        have h1 := h.low
        have h2 : B ^ (m + 1) * dg L (j + (m + 2)) ≤ val B (L.drop (j + 1)) := by
          have e1 : val B ((L.drop (j + 1)).take (m + 1 + 1)) = val B ((L.drop (j + 1)).take (m + 1)) + B ^ (m + 1) * dg (L.drop (j + 1)) (m + 1) := val_take_dg B _ _
          have e2 : dg (L.drop (j + 1)) (m + 1) = dg L (j + (m + 2)) := by
            simp only [dg, List.getElem?_drop]
            rw [show j + 1 + (m + 1) = j + (m + 2) by omega]
          rw [e2] at e1
          have e3 : val B ((L.drop (j + 1)).take (m + 1 + 1)) ≤ val B (L.drop (j + 1)) := by
            rcases Nat.lt_or_ge (L.drop (j + 1)).length (m + 1 + 1) with hl | hl
            · rw [List.take_of_length_le (by omega)]; exact Nat.le_refl _
            · rw [val_split B (L.drop (j + 1)) (m + 1 + 1) hl]; omega
          omega
        have h3 : (dg b (m + 1) + 1) * B ^ (m + 1) ≤ B ^ (m + 1) * dg L (j + (m + 2)) := by
          rw [Nat.mul_comm]; exact Nat.mul_le_mul_left _ hlt
        have h4 : D < (dg b (m + 1) + 1) * B ^ (m + 1) := by
          refine Nat.lt_of_lt_of_le t2.2 ?_
          rw [Nat.pow_succ, Nat.mul_comm (B ^ m) B, ← Nat.mul_assoc]
          apply Nat.mul_le_mul_right
          have := dg_lt hb (show 1 ≤ B by omega) m
          rw [Nat.add_mul, Nat.one_mul, Nat.mul_comm B]
          omega
        omega
      · exact hge
    have := dg_lt h.digs (show 1 ≤ B by omega) (j + (m + 1))
    have h2 := Nat.mul_le_mul_right B hle
    omega
end Go.Dig

namespace Go.Dig
set_option linter.unusedVariables false
structure TkI (a b : List Nat) (q k : Nat) (o : List Nat) (c r : Nat) : Prop where
  len : o.length = k
  digs : Digs 4294967296 o
  carry : c < 4294967296
  borrow : r ≤ 1
  eq : val 4294967296 o + q * val 4294967296 (b.take k) = val 4294967296 (a.take k) + 4294967296 ^ k * (c + r)
theorem TkI.start (a b : List Nat) (q : Nat) : TkI a b q 0 [] 0 0 := ⟨rfl, Digs.nil _, by omega, by omega, by simp⟩
theorem TkI.step {a b : List Nat} {q k : Nat} {o : List Nat} {c r v c' r' : Nat} (h : TkI a b q k o c r) (hv : v < 4294967296) (hc : c' < 4294967296) (hr : r' ≤ 1) (he : v + (c + q * dg b k) + r = dg a k + 4294967296 * (c' + r')) : TkI a b q (k + 1) (o ++ [v]) c' r' := by
  refine ⟨by simp [h.len], h.digs.snoc hv, hc, hr, ?_⟩
  rw [val_snoc, h.len, val_take_dg, val_take_dg, Nat.pow_succ, Nat.mul_assoc]
  have e := h.eq
  have e2 : 4294967296 ^ k * (v + (c + q * dg b k) + r) = 4294967296 ^ k * (dg a k + 4294967296 * (c' + r')) := by rw [he]
  simp only [Nat.mul_add] at e e2 ⊢
  have e3 : q * (4294967296 ^ k * dg b k) = 4294967296 ^ k * (q * dg b k) := Nat.mul_left_comm _ _ _
  omega
theorem dg_drop (l : List Nat) (j k : Nat) : dg (l.drop j) k = dg l (j + k) := by simp [dg, List.getElem?_drop]
/-- The end: nothing is carried, and the borrow tells which is greater. -/
theorem TkI.done {a b : List Nat} {q m : Nat} {o : List Nat} {r : Nat} (h : TkI a b q m o 0 r) (ha : Digs 4294967296 a) (hb : b.length ≤ m) : (r = 0 ∧ val 4294967296 o + q * val 4294967296 b = val 4294967296 (a.take m)) ∨ (r = 1 ∧ val 4294967296 o + q * val 4294967296 b = val 4294967296 (a.take m) + 4294967296 ^ m ∧ val 4294967296 (a.take m) < q * val 4294967296 b) := by
  have e := h.eq
  rw [List.take_of_length_le hb, Nat.zero_add] at e
  have h1 := val_lt h.digs
  rw [h.len] at h1
  rcases (show r = 0 ∨ r = 1 by have := h.borrow; omega) with h0 | h0
  · left; subst h0; exact ⟨rfl, by omega⟩
  · right; subst h0; exact ⟨rfl, by omega, by omega⟩
end Go.Dig
namespace Go.Proofs.YtblcaeoeeepajaaGreatDoor
set_option linter.unusedVariables false
open Go.RowKit Go.Mem Go.Dig Go.Pure

def TkW (W : World) (g ga gd gc gb j m cap N q : Nat) (l lb : List Nat) (k c b : Nat) (wr : World) : Prop :=
  ∃ o, TkI (l.drop j) lb q k o c b ∧ wr.ownsRow g 69 1 (.slice (some ⟨g, 0, none⟩) N N) N (nv .u32 ((l.take j ++ o) ++ l.drop (j + k))) ∧
    Blk wr gc 67 #[.int .u64 c] ∧ Blk wr gd 67 #[.int .u64 q] ∧ Blk wr gb 67 #[.int .u64 b] ∧ Blk wr ga 27 #[.slice (some ⟨g, j, none⟩) m cap] ∧ Chg (fun k => k = gc ∨ k = gb ∨ k = g) W wr
theorem tkw_step {W : World} {g ga gd gc gb j m cap N q : Nat} {l lb : List Nat} {k c b y : Nat} {wo : World} (hl : l.length = N) (hk : k < m) (hj : j + m ≤ N) (hN : N ≤ 1000000) (hdl : Digs 4294967296 l) (hdb : Digs 4294967296 lb) (hq : q < 4294967296) (hy : dg lb k = y) (hg : g < ga ∧ ga < gd ∧ gd < gc ∧ gc < gb) (h : TkW W g ga gd gc gb j m cap N q l lb k c b wo) :
    Calls Tryz.prog 103 #[.int .i64 k, .int .u32 y, .pointer (some ⟨gc, 0, none⟩), .pointer (some ⟨gd, 0, none⟩), .pointer (some ⟨gb, 0, none⟩), .pointer (some ⟨ga, 0, none⟩)] wo fun e w' => (∃ v, e = .returned v) ∧ ∃ c' b' : Nat, Hid (c' = (c + q * y) / 4294967296 ∧ TkW W g ga gd gc gb j m cap N q l lb (k + 1) c' b' w') := by
  obtain ⟨o, hT, hown, bc, bd, bb, ba, hch⟩ := h
  have hyb := dg_lt hdb (by omega) k
  rw [hy] at hyb
  obtain ⟨d, hd⟩ : ∃ d, l[j + k]? = some d := ⟨_, List.getElem?_eq_getElem (by omega)⟩
  have hO : (l.take j ++ o).length = j + k := by simp [hT.len]; omega
  refine (takeStep_any k m cap j N y c q b d _ hk hj hN hyb hT.carry hq hT.borrow gc gd gb ga g (by omega) (by omega) (by omega) (by omega) wo bc bd bb ba hown (at_drop hO hd) (hdl.at_ hd)).mono ?_
  rintro e w' ⟨hv, v, c', b', h1, h2, h2', h3, h4, h5, h6, h7, h8⟩
  refine ⟨hv, c', b', h2', o ++ [v], hT.step h1 h2 h3 (by rw [hy, dg_drop, dg_some hd]; exact h4), ?_, h5, bd.chg h8 (by omega), h6, ba.chg h8 (by omega), hch.trans h8 (fun _ _ h => h)⟩
  rw [set_drop hO hd, List.append_assoc (l.take j) o [v]] at h7
  exact h7

def BkW (W : World) (g ga gc j m cap N : Nat) (l lb : List Nat) (k c : Nat) (wr : World) : Prop :=
  ∃ o, AddI 4294967296 (l.drop j) lb k o c ∧ wr.ownsRow g 69 1 (.slice (some ⟨g, 0, none⟩) N N) N (nv .u32 ((l.take j ++ o) ++ l.drop (j + k))) ∧
    Blk wr gc 67 #[.int .u64 c] ∧ Blk wr ga 27 #[.slice (some ⟨g, j, none⟩) m cap] ∧ Chg (fun k => k = gc ∨ k = g) W wr
theorem bkw_step {W : World} {g ga gc j m cap N : Nat} {l lb : List Nat} {k c y : Nat} {wo : World} (hl : l.length = N) (hk : k < m) (hj : j + m ≤ N) (hN : N ≤ 1000000) (hdl : Digs 4294967296 l) (hdb : Digs 4294967296 lb) (hy : dg lb k = y) (hg : g < ga ∧ ga < gc) (h : BkW W g ga gc j m cap N l lb k c wo) :
    Calls Tryz.prog 104 #[.int .i64 k, .int .u32 y, .pointer (some ⟨gc, 0, none⟩), .pointer (some ⟨ga, 0, none⟩)] wo fun e w' => (∃ v, e = .returned v) ∧ ∃ c' : Nat, Hid (BkW W g ga gc j m cap N l lb (k + 1) c' w') := by
  obtain ⟨o, hT, hown, bc, ba, hch⟩ := h
  have hyb := dg_lt hdb (by omega) k
  rw [hy] at hyb
  obtain ⟨d, hd⟩ : ∃ d, l[j + k]? = some d := ⟨_, List.getElem?_eq_getElem (by omega)⟩
  have hO : (l.take j ++ o).length = j + k := by simp [hT.len]; omega
  refine (takeBack_any k m cap j N y c d _ hk hj hN hyb hT.carry gc ga g (by omega) (by omega) wo bc ba hown (at_drop hO hd) (hdl.at_ hd)).mono ?_
  rintro e w' ⟨hv, v, c', h1, h3, h4, h5, h7, h8⟩
  have hst := hT.step (by omega) (hdl.drop j) hdb
  rw [dg_drop, dg_some hd, hy, h4, Nat.add_mul_mod_self_left, Nat.mod_eq_of_lt h1, Nat.add_mul_div_left _ _ (by omega), Nat.div_eq_of_lt h1, Nat.zero_add] at hst
  refine ⟨hv, c', o ++ [v], hst, ?_, h5, ba.chg h8 (by omega), hch.trans h8 (fun _ _ h => h)⟩
  rw [set_drop hO hd, List.append_assoc (l.take j) o [v]] at h7
  exact h7

/-- What takeAway leaves. -/
def TaP (w : World) (g j m N : Nat) (l : List Nat) (R : Nat) (w' : World) : Prop := ∃ o, o.length = m ∧ Digs 4294967296 o ∧ val 4294967296 o = R ∧ w'.ownsRow g 69 1 (.slice (some ⟨g, 0, none⟩) N N) N (nv .u32 ((l.take j ++ o) ++ l.drop (j + m))) ∧ Chg (fun k => k = g) w w'
theorem tk_no {w W : World} {g ga gd gc gb j m cap N q : Nat} {l lb : List Nat} {U D : Nat} {w5 : World} (hdl : Digs 4294967296 l) (hlb : lb.length ≤ m) (hU : val 4294967296 ((l.drop j).take m) = U) (hD : val 4294967296 lb = D) (hnW : New w W) (hga : w.heap.size = ga) (hg : g < ga ∧ ga < gd ∧ gd < gc ∧ gc < gb) (h : TkW W g ga gd gc gb j m cap N q l lb m 0 0 w5) :
    ¬ U < q * D ∧ TaP w g j m N l (U - q * D) w5 := by
  obtain ⟨o, hT, hown, bc, bd, bb, ba, hch⟩ := h
  rcases hT.done (hdl.drop j) hlb with ⟨_, h2⟩ | ⟨h1, _⟩
  · rw [hU, hD] at h2
    refine ⟨by omega, o, hT.len, hT.digs, by omega, hown, (hnW.mono (fun _ _ h => h.elim)).trans hch (fun k hk e => ?_)⟩
    omega
  · omega
theorem tk_yes {g ga gd gc gb j m cap N q : Nat} {l lb : List Nat} {U D : Nat} {W w5 : World} (hl : l.length = N) (hj : j + m ≤ N) (hdl : Digs 4294967296 l) (hlb : lb.length ≤ m) (hU : val 4294967296 ((l.drop j).take m) = U) (hD : val 4294967296 lb = D) (hg : g < ga ∧ ga < gd ∧ gd < gc ∧ gc < gb) (h : TkW W g ga gd gc gb j m cap N q l lb m 0 1 w5) :
    U < q * D ∧ ∃ o, o.length = m ∧ Digs 4294967296 o ∧ val 4294967296 o + q * D = U + 4294967296 ^ m ∧
      BkW (w5.setCell ⟨gc, 0, none⟩ (.int .u64 0)) g ga gc j m cap N ((l.take j ++ o) ++ l.drop (j + m)) lb 0 0 (w5.setCell ⟨gc, 0, none⟩ (.int .u64 0)) ∧ Chg (fun k => k = gc ∨ k = gb ∨ k = g) W (w5.setCell ⟨gc, 0, none⟩ (.int .u64 0)) := by
  obtain ⟨o, hT, hown, bc, bd, bb, ba, hch⟩ := h
  rcases hT.done (hdl.drop j) hlb with ⟨h1, _⟩ | ⟨_, h2, h3⟩
  · omega
  · rw [hU, hD] at h2 h3
    refine ⟨h3, o, hT.len, hT.digs, h2, ⟨[], AddI.start _ _ _, ?_, bc.set1 _, ba.far (p := ⟨gc, 0, none⟩) (by show ga ≠ gc; omega) _, Chg.refl _ _⟩, hch.setCell (p := ⟨gc, 0, none⟩) (fun _ => .inl rfl) _⟩
    have := own_chg hown (Chg.at1 w5 gc (.int .u64 0)) (fun k hk e => by simp [blk] at hk; omega)
    rw [List.append_nil, Nat.add_zero, List.take_append_drop]
    exact this
theorem tk_done {w W w5 w6 : World} {g ga gd gc gb j m cap N q c : Nat} {l lb o : List Nat} {U D : Nat} (hl : l.length = N) (hj : j + m ≤ N) (hlb : lb.length ≤ m) (hdb : Digs 4294967296 lb) (hD : val 4294967296 lb = D) (hqD : q * D ≤ U + D) (hlt : U < q * D) (ho : o.length = m) (hv : val 4294967296 o + q * D = U + 4294967296 ^ m) (hnW : New w W) (hga : w.heap.size = ga) (hg : g < ga ∧ ga < gd ∧ gd < gc ∧ gc < gb)
    (hch : Chg (fun k => k = gc ∨ k = gb ∨ k = g) W w5) (h : BkW w5 g ga gc j m cap N ((l.take j ++ o) ++ l.drop (j + m)) lb m c w6) : TaP w g j m N l (U + D - q * D) w6 := by
  obtain ⟨o2, hA, hown, bc, ba, hch2⟩ := h
  have e1 : ((l.take j ++ o) ++ l.drop (j + m)).drop j = o ++ l.drop (j + m) := by rw [List.append_assoc, List.drop_left' (by simp; omega)]
  have e2 : ((l.take j ++ o) ++ l.drop (j + m)).take j = l.take j := by rw [List.append_assoc, List.take_left' (by simp; omega)]
  have e3 : ((l.take j ++ o) ++ l.drop (j + m)).drop (j + m) = l.drop (j + m) := by rw [List.drop_left' (by simp [ho]; omega)]
  rw [e1] at hA
  rw [e2, e3] at hown
  have hDm : D ≤ 4294967296 ^ m := by
    have h1 := val_lt hdb
    rw [hD] at h1
    exact Nat.le_of_lt (Nat.lt_of_lt_of_le h1 (Nat.pow_le_pow_right (by omega) hlb))
  refine ⟨o2, hA.len, hA.digs, tk_back ho hA hlb hD hv hqD hlt hDm, hown, ?_⟩
  have h1 : Chg (fun k => k = g) w w5 := (hnW.mono (fun _ _ h => h.elim)).trans hch (fun k hk e => by omega)
  exact h1.trans hch2 (fun k hk e => by omega)

set_option maxRecDepth 100000 in
set_option maxHeartbeats 4000000 in
theorem takeAway_any (g j m cap N q : Nat) (l : List Nat) (Bd : Option Addr) (n c2 : Nat) (lb : List Nat) (w : World) (hown : w.ownsRow g 69 1 (.slice (some ⟨g, 0, none⟩) N N) N (nv .u32 l)) (hdl : Digs 4294967296 l) (hm : m = n + 1) (hj : j + m ≤ N) (hN : N ≤ 1000000)
    (hb : Rd w Bd n (nv .u32 lb)) (hbg : ∀ ad, Bd = some ad → ad.block ≠ g) (hdb : Digs 4294967296 lb) (hnc : n ≤ c2) (hc2 : c2 ≤ maxLen) (hq : q < 4294967296) {U D : Nat} (hU : val 4294967296 ((l.drop j).take m) = U) (hD : val 4294967296 lb = D) (hqD : q * D ≤ U + D) :
    Calls Tryz.prog 82 #[.slice (some ⟨g, j, none⟩) m cap, .slice Bd n c2, .int .u64 q] w fun e w' => e = .returned (.bool (decide (U < q * D))) ∧ Hid (TaP w g j m N l (if U < q * D then U + D - q * D else U - q * D) w') := by
  have hl : l.length = N := by have := hown.1; rw [nv_length] at this; omega
  have hlb : lb.length = n := by have := hb.len; rwa [nv_length] at this
  have hgw : g < w.heap.size := (own_blk_le hown (k := g) (by simp [blk])).2
  subst hm
  obtain ⟨r, hr⟩ : ∃ r, decide (U < q * D) = r := ⟨_, rfl⟩
  rw [hr]
  have H0 := Lib.hid (And.intro hown (And.intro hdl (And.intro hb (And.intro hbg (And.intro hdb (And.intro hl (And.intro hlb (And.intro hU (And.intro hD (And.intro hqD hr))))))))))
  clear hown hdl hb hbg hdb hl hlb hU hD hqD hr
  obtain ⟨X, hX⟩ : ∃ X, (if U < q * D then U + D - q * D else U - q * D) = X := ⟨_, rfl⟩
  rw [hX]
  have HX := Lib.hid hX
  clear hX
  go_enter Tryz.func82, Tryz.ntmps82
  go_wp2_with fail
  refine Code.new4 ?_
  intro W ba bd bc bb hnW hzW
  obtain ⟨ga, hga⟩ : ∃ k, w.heap.size = k := ⟨_, rfl⟩
  obtain ⟨gd, hgd⟩ : ∃ k, w.heap.size + 1 = k := ⟨_, rfl⟩
  obtain ⟨gc, hgc⟩ : ∃ k, w.heap.size + 1 + 1 = k := ⟨_, rfl⟩
  obtain ⟨gb, hgb⟩ : ∃ k, w.heap.size + 1 + 1 + 1 = k := ⟨_, rfl⟩
  have hlt : g < ga ∧ ga < gd ∧ gd < gc ∧ gc < gb := by omega
  have HG := Lib.hid (And.intro hga hlt)
  rw [hga] at ba
  rw [hgd] at bd
  rw [hgc] at bc
  rw [hgb] at bb
  have HW : Hid (New w W ∧ TkW W g ga gd gc gb j (n + 1) cap N q l lb 0 0 0 W) := ⟨hnW, [], TkI.start _ _ _, by have := own_chg H0.out.1 hnW (fun _ _ h => h); simpa using this, bc, bd, bb, ba, Chg.refl _ _⟩
  simp only [hgb]
  simp only [hgc]
  simp only [hgd]
  simp only [hga]
  clear ba bd bc bb hnW hzW hga hgd hgc hgb hlt hgw
  have hbk : ∀ wo S, Chg S w wo → (∀ k, S k → k = gc ∨ k = gb ∨ k = g) → Rd wo Bd n (nv .u32 lb) := fun wo S hc hS => by
    obtain ⟨hown, hdl, hb, hbg, _⟩ := H0.out
    have hG := HG.out
    refine hb.chg hc (fun k hk h e => ?_)
    have hne : k ≠ g := by
      cases Bd with
      | none => simp [blk] at hk
      | some ad => simp [blk] at hk; rw [← hk]; exact hbg ad rfl
    have := hS k e
    omega
  have HBK := Lib.hid hbk
  clear hbk
  go_loopw [18, 10, 11] (fun v _ _ wr => ∃ k c b : Nat, v = .int .i64 k ∧ k ≤ n ∧ Hid (TkW W g ga gd gc gb j (n + 1) cap N q l lb k c b wr)) (fun v _ _ _ => n - (intOf v).toNat)
  case atStart => exact ⟨0, 0, 0, rfl, by omega, HW.out.2⟩
  case round =>
    obtain ⟨i, c, br, rfl, hi, HO⟩ := hrel
    obtain ⟨wo, rfl⟩ : ∃ wo : World, wo = wr := ⟨_, rfl⟩
    by_cases hlt : i < n
    · obtain ⟨hown, hdl, hb, hbg, hdb, hl, hlb, hU, hD, hqD, hr⟩ := H0.out
      have hchg : Chg (fun k => k = gc ∨ k = gb ∨ k = g) w wo := (HW.out.1.mono (fun _ _ h => h.elim)).trans HO.out.choose_spec.2.2.2.2.2.2 (fun _ _ h => h)
      obtain ⟨bd, v, rfl, hv, hcv⟩ := (HBK.out wo _ hchg (fun _ h => h)).at_ hlt
      obtain ⟨y, hy, rfl⟩ := nv_at hv
      have hst := tkw_step hl (show i < n + 1 by omega) hj hN hdl hdb hq (dg_some hy) HG.out.2 HO.out
      have HS := Lib.hid hst
      clear hown hdl hb hbg hdb hl hlb hU hD hqD hr hchg hv hy hst
      go_wp2_with fail
      refine HS.out.mono ?_
      rintro e w5 ⟨⟨ve, rfl⟩, c', b', H5⟩
      go_wp2
      go_roundw
      case rel => exact ⟨i + 1, c', b', by go_num, by omega, H5.out.2⟩
      case measure => simp [intOf]; omega
    · obtain rfl : n = i := by omega
      obtain ⟨hown, hdl, hb, hbg, hdb, hl, hlb, hU, hD, hqD, hr⟩ := H0.out
      have hst := tkw_step hl (show n < n + 1 by omega) hj hN hdl hdb hq (dg_none (l := lb) (i := n) (by omega)) HG.out.2 HO.out
      have hc0 : ∀ c', c' = (c + q * 0) / 4294967296 → c' = 0 := fun c' h => by
        rw [h, Nat.mul_zero, Nat.add_zero]
        exact Nat.div_eq_of_lt HO.out.choose_spec.1.carry
      have HC := Lib.hid hc0
      have HS := Lib.hid hst
      clear hown hdl hb hbg hdb hl hlb hU hD hqD hr hst hc0
      go_wp2_with fail
      refine HS.out.mono ?_
      rintro e w5 ⟨⟨ve, rfl⟩, c', b', H5⟩
      obtain ⟨hc', HT⟩ := H5.out
      obtain rfl := HC.out c' hc'
      obtain ⟨hown, hdl, hb, hbg, hdb, hl, hlb, hU, hD, hqD, hr⟩ := H0.out
      have hbb := HT.choose_spec.2.2.2.2.1
      have hb1 := HT.choose_spec.1.borrow
      have hkb := hbb.cell 0 rfl
      rcases (show b' = 0 ∨ b' = 1 by omega) with h0 | h0
      · subst h0
        obtain ⟨hge, hta⟩ := tk_no hdl (by omega) hU hD HW.out.1 HG.out.1 HG.out.2 HT
        have hrf : r = false := by rw [← hr]; simpa using hge
        have hXX : X = U - q * D := by rw [← HX.out, if_neg hge]
        have HF := Lib.hid (And.intro hXX hta)
        subst hrf
        clear hown hdl hb hbg hdb hl hlb hU hD hqD hr hc' HT hbb hb1 hge hta hXX
        go_wp2
        go_ret
        exact ⟨rfl, by rw [HF.out.1]; exact HF.out.2⟩
      · subst h0
        obtain ⟨hlt2, o, ho, hod, hov, hBK, hCH⟩ := tk_yes hl hj hdl (by omega) hU hD HG.out.2 HT
        have hrt : r = true := by rw [← hr]; simpa using hlt2
        have hXX : X = U + D - q * D := by rw [← HX.out, if_pos hlt2]
        have hkc := HT.choose_spec.2.2.1.cell 0 rfl
        have hfc := HT.choose_spec.2.2.1.frozen 0
        subst hrt
        have HF := Lib.hid (And.intro hXX (And.intro hlt2 (And.intro ho (And.intro hod (And.intro hov (And.intro hBK hCH))))))
        clear hown hdl hb hbg hdb hl hlb hU hD hqD hr hc' HT hbb hb1 hlt2 hXX ho hod hov hBK hCH hlt
        go_wp2_with fail
        obtain ⟨W2, hW2⟩ : ∃ W2 : World, w5.setCell ⟨gc, 0, none⟩ (.int .u64 0) = W2 := ⟨_, rfl⟩
        obtain ⟨hXX, hlt2, ho, hod, hov, hBK, hCH⟩ := HF.out
        obtain ⟨hown, hdl, hb, hbg, hdb, hl, hlb, hU, hD, hqD, hr⟩ := H0.out
        rw [hW2] at hBK hCH
        simp only [hW2]
        obtain ⟨l2, hl2⟩ : ∃ l2, ((l.take j ++ o) ++ l.drop (j + (n + 1))) = l2 := ⟨_, rfl⟩
        have hl2len : l2.length = N := by rw [← hl2]; simp [ho]; omega
        have hl2d : Digs 4294967296 l2 := by rw [← hl2]; exact ((hdl.take j).app hod).app (hdl.drop _)
        rw [hl2] at hBK
        have HF2 := Lib.hid (And.intro hl2 (And.intro hl2len (And.intro hl2d (And.intro hBK hCH))))
        clear hXX hlt2 ho hod hov hBK hCH hown hdl hb hbg hdb hl hlb hU hD hqD hr hl2 hl2len hl2d hW2 hkb hkc hfc
        go_loopw [37, 13, 14] (fun v _ _ wr => ∃ k c : Nat, v = .int .i64 k ∧ k ≤ n ∧ Hid (BkW W2 g ga gc j (n + 1) cap N l2 lb k c wr)) (fun v _ _ _ => n - (intOf v).toNat)
        case atStart => exact ⟨0, 0, rfl, by omega, HF2.out.2.2.2.1⟩
        case round =>
          obtain ⟨i, c, rfl, hi, HO2⟩ := hrel
          obtain ⟨wp, rfl⟩ : ∃ wp : World, wp = wr := ⟨_, rfl⟩
          by_cases hlt : i < n
          · obtain ⟨hown, hdl, hb, hbg, hdb, hl, hlb, hU, hD, hqD, hr⟩ := H0.out
            obtain ⟨hl2, hl2len, hl2d, hBK, hCH⟩ := HF2.out
            have hchg : Chg (fun k => k = gc ∨ k = gb ∨ k = g) w wp := ((HW.out.1.mono (fun _ _ h => h.elim)).trans hCH (fun _ _ h => h)).trans HO2.out.choose_spec.2.2.2.2 (fun _ _ h => by omega)
            obtain ⟨bd, v, rfl, hv, hcv⟩ := (HBK.out wp _ hchg (fun _ h => h)).at_ hlt
            obtain ⟨y, hy, rfl⟩ := nv_at hv
            have hst := bkw_step hl2len (show i < n + 1 by omega) hj hN hl2d hdb (dg_some hy) (by have := HG.out.2; omega) HO2.out
            have HS := Lib.hid hst
            clear hown hdl hb hbg hdb hl hlb hU hD hqD hr hchg hv hy hst hl2 hl2len hl2d hBK hCH
            go_wp2_with fail
            refine HS.out.mono ?_
            rintro e w6 ⟨⟨ve, rfl⟩, c', H6⟩
            go_wp2
            go_roundw
            case rel => exact ⟨i + 1, c', by go_num, by omega, H6.out⟩
            case measure => simp [intOf]; omega
          · obtain rfl : n = i := by omega
            obtain ⟨hown, hdl, hb, hbg, hdb, hl, hlb, hU, hD, hqD, hr⟩ := H0.out
            obtain ⟨hl2, hl2len, hl2d, hBK, hCH⟩ := HF2.out
            have hst := bkw_step hl2len (show n < n + 1 by omega) hj hN hl2d hdb (dg_none (l := lb) (i := n) (by omega)) (by have := HG.out.2; omega) HO2.out
            have HS := Lib.hid hst
            clear hown hdl hb hbg hdb hl hlb hU hD hqD hr hst hl2 hl2len hl2d hBK hCH
            go_wp2_with fail
            refine HS.out.mono ?_
            rintro e w6 ⟨⟨ve, rfl⟩, c', H6⟩
            go_wp2
            go_ret
            obtain ⟨hown, hdl, hb, hbg, hdb, hl, hlb, hU, hD, hqD, hr⟩ := H0.out
            obtain ⟨hl2, hl2len, hl2d, hBK, hCH⟩ := HF2.out
            obtain ⟨hXX, hlt2, ho, hod, hov, _, _⟩ := HF.out
            refine ⟨rfl, ?_⟩
            have h6 := H6.out
            rw [← hl2] at h6
            rw [hXX]
            exact tk_done hl hj (by omega) hdb hD hqD hlt2 ho hov HW.out.1 HG.out.1 HG.out.2 hCH h6
end Go.Proofs.YtblcaeoeeepajaaGreatDoor

namespace Go.Proofs.YtblcaeoeeepajaaGreatDoor
set_option linter.unusedVariables false
open Go.RowKit Go.Mem Go.Dig Go.Pure

theorem run_sub {P : Program} {t e : TypeId} {z : Value} {bytes : Nat} (hE : Elem P t e z bytes) (kl kh : IntKind) (g n c i k : Nat) (li hi : Int) (hli : li = (i : Int)) (hhi : hi = (k : Int)) (h1 : i ≤ k) (hk : k ≤ c) (hi2 : i < c) (W : World) :
    (Instr.slice t (.slice (some ⟨g, 0, none⟩) n c) (some (.int kl li)) (some (.int kh hi)) none).run P W = .ok (.slice (some ⟨g, i, none⟩) (k - i) (c - i)) W := by
  obtain ⟨ht, ⟨info, hi1, hi2', hi3, hi4⟩, _⟩ := hE
  have hel : P.elem t = e := by simp [Program.elem, ht]
  subst hli hhi
  have := run_slice_lh (P := P) W t (some ⟨g, 0, none⟩) n c (by rw [hel]; exact ht) kl kh (i : Int) (k : Int) (by omega) (by omega) (by omega)
  rw [this, hel]
  have hne : ¬ c = i := by omega
  simp [sizeOf, typeInfo, hi1, hi3, sliced, hne, Addr.add_lit]

/-- The cells that the closure settle sees. -/
structure DvC (W : World) (g gd gq gN gn gD gQ N n : Nat) (ld : List Nat) (D : Nat) : Prop where
  bN : Blk W gN 27 #[.slice (some ⟨g, 0, none⟩) N N]
  bn : Blk W gn 3 #[.int .i64 n]
  bD : Blk W gD 27 #[.slice (some ⟨gd, 0, none⟩) n (n + 1)]
  bQ : Blk W gQ 27 #[.slice (some ⟨gq, 0, none⟩) (N - n) (N - n)]
  rd : Rd W (some ⟨gd, 0, none⟩) n (nv .u32 ld)
  dd : Digs 4294967296 ld
  vd : val 4294967296 ld = D
  pos : 1 ≤ D
  nN : n + 1 ≤ N
  big : N ≤ 1000000
  ne : g ≠ gq ∧ gd ≠ g ∧ gd ≠ gq ∧ gN ≠ g ∧ gN ≠ gq ∧ gn ≠ g ∧ gn ≠ gq ∧ gD ≠ g ∧ gD ≠ gq ∧ gQ ≠ g ∧ gQ ≠ gq
theorem DvC.chg {W W' : World} {g gd gq gN gn gD gQ N n : Nat} {ld : List Nat} {D : Nat} (h : DvC W g gd gq gN gn gD gQ N n ld D) (hc : Chg (fun k => k = g ∨ k = gq) W W') : DvC W' g gd gq gN gn gD gQ N n ld D := by
  have hne := h.ne
  refine ⟨h.bN.chg hc (by omega), h.bn.chg hc (by omega), h.bD.chg hc (by omega), h.bQ.chg hc (by omega), h.rd.chg hc (fun k hk _ e => ?_), h.dd, h.vd, h.pos, h.nN, h.big, h.ne⟩
  simp [blk] at hk
  omega
/-- The state of the division. -/
def DvW (W : World) (g gq X D N n k : Nat) (wr : World) : Prop := ∃ L q, KnI 4294967296 X D N n k L q ∧ wr.ownsRow g 69 1 (.slice (some ⟨g, 0, none⟩) N N) N (nv .u32 L) ∧ wr.ownsRow gq 69 1 (.slice (some ⟨gq, 0, none⟩) (N - n) (N - n)) (N - n) (nv .u32 q) ∧ Chg (fun k => k = g ∨ k = gq) W wr

theorem settle_done {W : World} {g gd gq gN gn gD gQ X D N n j Q U : Nat} {ld L q : List Nat} {wo w5 : World} (hC : DvC W g gd gq gN gn gD gQ N n ld D) (hK : KnI 4294967296 X D N n (j + 1) L q) (hq : wo.ownsRow gq 69 1 (.slice (some ⟨gq, 0, none⟩) (N - n) (N - n)) (N - n) (nv .u32 q)) (hch : Chg (fun k => k = g ∨ k = gq) W wo)
    (hj : j + (n + 1) ≤ N) (hU : val 4294967296 ((L.drop j).take (n + 1)) = U) (hQ : U / D = Q) {R : Nat} (hR : R = U % D) (ht : TaP wo g j (n + 1) N L R w5) : DvW W g gq X D N n j (w5.setCell ⟨gq, j, none⟩ (.int .u32 Q)) := by
  obtain ⟨o, ho, hod, hov, hown, hc⟩ := ht
  subst hR
  have hDn : D ≤ 4294967296 ^ n := by
    have h1 := val_lt hC.dd
    have h2 := hC.rd.len
    rw [nv_length] at h2
    rw [hC.vd, h2] at h1
    omega
  have hne := hC.ne
  have hst := hK.step (by omega) hDn hC.pos hj hU ho hod hov
  rw [hQ] at hst
  refine ⟨_, _, hst, ?_, ?_, ?_⟩
  · exact own_chg hown ((Chg.refl (fun k => k = gq) w5).setCell (p := ⟨gq, j, none⟩) (fun _ => rfl) _) (fun k hk e => by simp [blk] at hk; omega)
  · have h1 := own_chg hq hc (fun k hk e => by simp [blk] at hk; omega)
    have h2 := own_set h1 j (.int .u32 (Q : Int)) (by omega)
    rwa [nv_set] at h2
  · exact (hch.trans hc (fun _ _ h => .inl h)).setCell (p := ⟨gq, j, none⟩) (fun _ => .inr rfl) _

set_option maxRecDepth 100000 in
set_option maxHeartbeats 1000000 in
theorem settle_any {W : World} {g gd gq gN gn gD gQ X D N n j dgt Q U : Nat} {ld L q : List Nat} (wo : World) (hC : DvC W g gd gq gN gn gD gQ N n ld D) (hK : KnI 4294967296 X D N n (j + 1) L q) (hL : wo.ownsRow g 69 1 (.slice (some ⟨g, 0, none⟩) N N) N (nv .u32 L)) (hq : wo.ownsRow gq 69 1 (.slice (some ⟨gq, 0, none⟩) (N - n) (N - n)) (N - n) (nv .u32 q)) (hch : Chg (fun k => k = g ∨ k = gq) W wo)
    (hj : j + (n + 1) ≤ N) (hU : val 4294967296 ((L.drop j).take (n + 1)) = U) (hQ : U / D = Q) (h1 : dgt < 4294967296) (h2 : Q ≤ dgt) (h3 : dgt ≤ Q + 1) :
    Calls Tryz.prog 81 #[.int .i64 j, .int .u64 dgt, .pointer (some ⟨gN, 0, none⟩), .pointer (some ⟨gn, 0, none⟩), .pointer (some ⟨gD, 0, none⟩), .pointer (some ⟨gQ, 0, none⟩)] wo fun e w' => (∃ v, e = .returned v) ∧ Hid (DvW W g gq X D N n j w') := by
  have hCo := hC.chg hch
  have hne := hC.ne
  have hbig := hC.big
  have hkN := hCo.bN.cell 0 (u := .slice (some ⟨g, 0, none⟩) N N) rfl
  have hkn := hCo.bn.cell 0 (u := .int .i64 n) rfl
  have hkD := hCo.bD.cell 0 (u := .slice (some ⟨gd, 0, none⟩) n (n + 1)) rfl
  have hsv := settle_val hC.pos hQ h2 h3
  have hcal : ∀ W', New wo W' → Calls Tryz.prog 82 #[.slice (some ⟨g, j, none⟩) (n + 1) (N - j), .slice (some ⟨gd, 0, none⟩) n (n + 1), .int .u64 dgt] W' fun e w' => e = .returned (.bool (decide (U < dgt * D))) ∧ Hid (TaP wo g j (n + 1) N L (if U < dgt * D then U + D - dgt * D else U - dgt * D) w') := fun W' hn =>
    (takeAway_any g j (n + 1) (N - j) N dgt L (some ⟨gd, 0, none⟩) n (n + 1) ld W' (own_chg hL hn (fun _ _ h => h)) hK.digs rfl hj hbig (hCo.rd.new hn) (fun ad h => by injection h with h; subst h; exact hne.2.1) hC.dd (by omega) (by unfold maxLen; omega) h1 hU hC.vd hsv.1).mono fun e w' ⟨h4, o, h5, h6, h7, h8, h9⟩ => ⟨h4, o, h5, h6, h7, h8, (hn.mono (fun _ _ h => h.elim)).trans h9 (fun _ _ h => h)⟩
  obtain ⟨a1, ha1⟩ : ∃ a : Int, (j : Int) + (n : Int) = a := ⟨_, rfl⟩
  obtain ⟨a2, ha2⟩ : ∃ a : Int, a1 + 1 = a := ⟨_, rfl⟩
  have hw1 : IntKind.i64.wrap ((j : Int) + (n : Int)) = a1 := by rw [ha1]; exact IntWalk.i64_in _ (by omega)
  have hw2 : IntKind.i64.wrap (a1 + 1) = a2 := by rw [ha2]; exact IntWalk.i64_in _ (by omega)
  have hsub := fun W => run_sub elemU32 .i64 .i64 g N N j (j + n + 1) (j : Int) a2 rfl (by omega) (by omega) (by omega) (by omega) W
  rw [show j + n + 1 - j = n + 1 by omega] at hsub
  have ha2b : (j : Int) ≤ a2 ∧ a2 ≤ (N : Int) := by omega
  clear ha1 ha2
  rcases Nat.lt_or_ge U (dgt * D) with hlt | hge
  · obtain ⟨hr, hd, hd1⟩ := hsv.2.1 hlt
    have hcal2 : ∀ W', New wo W' → Calls Tryz.prog 82 #[.slice (some ⟨g, j, none⟩) (n + 1) (N - j), .slice (some ⟨gd, 0, none⟩) n (n + 1), .int .u64 dgt] W' fun e w' => e = .returned (.bool true) ∧ Hid (TaP wo g j (n + 1) N L (U % D) w') := fun W' hn =>
      (hcal W' hn).mono fun e w' ⟨h4, h5⟩ => ⟨by rw [h4]; simp [hlt], by rw [if_pos hlt, hr] at h5; exact h5⟩
    have hdi : (dgt : Int) - 1 = (Q : Int) := by omega
    have hQb : Q < 4294967296 := by omega
    have HC := Lib.hid hcal2
    have HF := Lib.hid (And.intro hC (And.intro hK (And.intro hL (And.intro hq (And.intro hch (And.intro hU hQ))))))
    have HCo := Lib.hid hCo
    clear hcal hcal2 hC hK hL hq hch hU hQ hsv hr hd hCo
    go_enter Tryz.func81, Tryz.ntmps81
    go_wp2_with fail
    go_region_with (first
      | (go_at_call 82; refine (HC.out _ ?_).mono ?_; exact (Chg.refl _ _).drew; rintro e w5 ⟨rfl, H5⟩))
    all_goals
      obtain ⟨hC, hK, hL, hq, hch, hU, hQ⟩ := HF.out
      have hc5 := H5.out.choose_spec.2.2.2.2
      have hkQ := (HCo.out.bQ.chg hc5 (by omega)).cell 0 (u := .slice (some ⟨gq, 0, none⟩) (N - n) (N - n)) rfl
      have hq5 := own_chg hq hc5 (fun k hk e => by simp [blk] at hk; omega)
      have hql := hK.qlen
      obtain ⟨dq, hdq⟩ : ∃ d, q[j]? = some d := ⟨_, List.getElem?_eq_getElem (by omega)⟩
      have hcq := own_cell hq5 (i := j) (u := .int .u32 (dq : Nat)) (by rw [nv, List.getElem?_map, hdq]; rfl)
      have hfq := own_frz hq5 (by omega) j
      have hjN : (j : Int) < ((N - n : Nat) : Int) := by omega
      have hjN2 : j < N - n := by omega
      clear hC hK hL hq hch hU hQ hc5 hq5 hql hdq HC
      clear hkN hkn hkD hsub hw1 hw2
      go_wp2
      refine bodyPost_end (results_none rfl _ _ _) rfl ⟨⟨_, rfl⟩, ?_⟩
      obtain ⟨hC, hK, hL, hq, hch, hU, hQ⟩ := HF.out
      exact settle_done hC hK hq hch hj hU hQ rfl H5.out
  · obtain ⟨hr, hd⟩ := hsv.2.2 (by omega)
    have hcal2 : ∀ W', New wo W' → Calls Tryz.prog 82 #[.slice (some ⟨g, j, none⟩) (n + 1) (N - j), .slice (some ⟨gd, 0, none⟩) n (n + 1), .int .u64 dgt] W' fun e w' => e = .returned (.bool false) ∧ Hid (TaP wo g j (n + 1) N L (U % D) w') := fun W' hn =>
      (hcal W' hn).mono fun e w' ⟨h4, h5⟩ => ⟨by rw [h4]; simp; omega, by rw [if_neg (by omega), hr] at h5; exact h5⟩
    subst hd
    have HC := Lib.hid hcal2
    have HF := Lib.hid (And.intro hC (And.intro hK (And.intro hL (And.intro hq (And.intro hch (And.intro hU hQ))))))
    have HCo := Lib.hid hCo
    clear hcal hcal2 hC hK hL hq hch hU hQ hsv hr hCo
    go_enter Tryz.func81, Tryz.ntmps81
    go_wp2_with fail
    go_region_with (first
      | (go_at_call 82; refine (HC.out _ ?_).mono ?_; exact (Chg.refl _ _).drew; rintro e w5 ⟨rfl, H5⟩))
    all_goals
      obtain ⟨hC, hK, hL, hq, hch, hU, hQ⟩ := HF.out
      have hc5 := H5.out.choose_spec.2.2.2.2
      have hkQ := (HCo.out.bQ.chg hc5 (by omega)).cell 0 (u := .slice (some ⟨gq, 0, none⟩) (N - n) (N - n)) rfl
      have hq5 := own_chg hq hc5 (fun k hk e => by simp [blk] at hk; omega)
      have hql := hK.qlen
      obtain ⟨dq, hdq⟩ : ∃ d, q[j]? = some d := ⟨_, List.getElem?_eq_getElem (by omega)⟩
      have hcq := own_cell hq5 (i := j) (u := .int .u32 (dq : Nat)) (by rw [nv, List.getElem?_map, hdq]; rfl)
      have hfq := own_frz hq5 (by omega) j
      have hjN : (j : Int) < ((N - n : Nat) : Int) := by omega
      have hjN2 : j < N - n := by omega
      clear hC hK hL hq hch hU hQ hc5 hq5 hql hdq HC
      clear hkN hkn hkD hsub hw1 hw2
      go_wp2
      refine bodyPost_end (results_none rfl _ _ _) rfl ⟨⟨_, rfl⟩, ?_⟩
      obtain ⟨hC, hK, hL, hq, hch, hU, hQ⟩ := HF.out
      exact settle_done hC hK hq hch hj hU hQ rfl H5.out
end Go.Proofs.YtblcaeoeeepajaaGreatDoor

namespace Go.Proofs.YtblcaeoeeepajaaGreatDoor
set_option linter.unusedVariables false
open Go.RowKit Go.Mem Go.Dig Go.Pure

theorem Blk.new' {w : World} {g : Nat} {t : TypeId} {cs : Array Value} (hg : g = w.heap.size) : Blk (w.alloc (.cells cs t)) g t cs := by subst hg; exact Blk.new _ _ _
theorem own_al {w : World} {g : Nat} {e : TypeId} {n c : Nat} {xs : List Value} (h : w.ownsRow g e 1 (.slice (some ⟨g, 0, none⟩) n c) n xs) (o : Obj) : (w.alloc o).ownsRow g e 1 (.slice (some ⟨g, 0, none⟩) n c) n xs := own_chg h ((Chg.refl (fun _ => False) w).alloc o) (fun _ _ h => h)
theorem own_nw {w w' : World} {g : Nat} {e : TypeId} {n c : Nat} {xs : List Value} (h : w.ownsRow g e 1 (.slice (some ⟨g, 0, none⟩) n c) n xs) (hn : New w w') : w'.ownsRow g e 1 (.slice (some ⟨g, 0, none⟩) n c) n xs := own_chg h hn (fun _ _ h => h)
theorem own_fr {w : World} {g : Nat} {e : TypeId} {n c : Nat} {xs : List Value} {p : Addr} (h : w.ownsRow g e 1 (.slice (some ⟨g, 0, none⟩) n c) n xs) (hne : g ≠ p.block) (u : Value) : (w.setCell p u).ownsRow g e 1 (.slice (some ⟨g, 0, none⟩) n c) n xs :=
  own_chg h ((Chg.refl (fun k => k = p.block) w).setCell (p := p) (fun _ => rfl) u) (fun k hk e => by simp [blk] at hk; omega)
theorem bcell {W w1 : World} (hb : Below W.heap.size W w1) : (∀ b o, b < W.heap.size → w1.cell? ⟨b, o, none⟩ = W.cell? ⟨b, o, none⟩) ∧ (∀ b o, b < W.heap.size → w1.frozen? ⟨b, o, none⟩ = W.frozen? ⟨b, o, none⟩) :=
  ⟨fun b o h => hb.cell (p := ⟨b, o, none⟩) h, fun b o h => hb.frozen (p := ⟨b, o, none⟩) h⟩
theorem bitLen32 {x : Nat} (h0 : 1 ≤ x) (h : x < 4294967296) : 1 ≤ Lib.bitLen x ∧ Lib.bitLen x ≤ 32 ∧ x < 2 ^ Lib.bitLen x := by
  have h1 := Lib.bitLenAux_bounds 64 x (by omega) (by omega)
  have h2 := Lib.bitLen_le x 32 (by omega) (by omega)
  exact ⟨h1.1, h2, h1.2.2⟩
theorem lz_any (x : Nat) (h0 : 1 ≤ x) (h : x < 4294967296) (w : World) :
    Calls Tryz.prog 79 #[.int .u32 (x : Int)] w fun e w' => ∃ s : Nat, e = .returned (.int .i64 (s : Int)) ∧ s < 32 ∧ Hid (x * 2 ^ s < 4294967296) ∧ w = w' := by
  refine (Tryz.bits_LeadingZeros32 (x : Int) w (by omega) (by omega)).mono ?_
  rintro e w' ⟨rfl, rfl⟩
  rw [Int.toNat_natCast]
  obtain ⟨h1, h2, h3⟩ := bitLen32 h0 h
  refine ⟨32 - Lib.bitLen x, ?_, by omega, ?_, rfl⟩
  · rw [show (32 : Int) - (Lib.bitLen x : Int) = ((32 - Lib.bitLen x : Nat) : Int) by omega]
  · show _ < _
    have e : (4294967296 : Nat) = 2 ^ Lib.bitLen x * 2 ^ (32 - Lib.bitLen x) := by rw [← Nat.pow_add, show Lib.bitLen x + (32 - Lib.bitLen x) = 32 by omega]
    rw [e]
    exact Nat.mul_lt_mul_of_pos_right h3 (Nat.pow_pos (by omega))
/-- The divisor, shifted: its digits without the last, which is 0. -/
theorem den_facts {lb : List Nat} {n s y : Nat} (hN : Num 4294967296 lb y) (hl : lb.length = n) (hn : 2 ≤ n) (hs : s < 32) (ht : dg lb (n - 1) * 2 ^ s < 4294967296) :
    Digs 4294967296 ((lst (n + 1) (shD 4294967296 (2 ^ s) (2 ^ (32 - s)) lb)).take n) ∧ val 4294967296 ((lst (n + 1) (shD 4294967296 (2 ^ s) (2 ^ (32 - s)) lb)).take n) = y * 2 ^ s := by
  have hPQ : 2 ^ s * 2 ^ (32 - s) = 4294967296 := by rw [← Nat.pow_add, show s + (32 - s) = 32 by omega]
  have hP : 1 ≤ 2 ^ s := Nat.one_le_two_pow
  have hQ : 1 ≤ 2 ^ (32 - s) := Nat.one_le_two_pow
  have hd : Digs 4294967296 (lst (n + 1) (shD 4294967296 (2 ^ s) (2 ^ (32 - s)) lb)) := lst_digs (fun j _ => shD_lt hQ hPQ hP hN.digs j)
  refine ⟨hd.take n, ?_⟩
  have hv := sh_val hQ hPQ hP lb
  rw [hl, hN.val] at hv
  rw [← hv, lst_succ, List.take_left' (by rw [lst_len]), val_snoc]
  have h0 : shD 4294967296 (2 ^ s) (2 ^ (32 - s)) lb n = 0 := by
    rw [shD, dg_none (by omega), Nat.zero_mul, Nat.zero_mod, if_neg (by omega), Nat.zero_add]
    apply Nat.div_eq_of_lt
    refine Nat.lt_of_mul_lt_mul_right (a := 2 ^ s) ?_
    rw [Nat.mul_comm (2 ^ (32 - s)), hPQ]
    exact ht
  rw [h0]; omega
theorem num_facts {la : List Nat} {n s x : Nat} (hN : Num 4294967296 la x) (hl : la.length = n) (hs : s < 32) :
    Digs 4294967296 (lst (n + 1) (shD 4294967296 (2 ^ s) (2 ^ (32 - s)) la)) ∧ val 4294967296 (lst (n + 1) (shD 4294967296 (2 ^ s) (2 ^ (32 - s)) la)) = x * 2 ^ s := by
  have hPQ : 2 ^ s * 2 ^ (32 - s) = 4294967296 := by rw [← Nat.pow_add, show s + (32 - s) = 32 by omega]
  have hP : 1 ≤ 2 ^ s := Nat.one_le_two_pow
  have hQ : 1 ≤ 2 ^ (32 - s) := Nat.one_le_two_pow
  refine ⟨lst_digs (fun j _ => shD_lt hQ hPQ hP hN.digs j), ?_⟩
  have hv := sh_val hQ hPQ hP la
  rwa [hl, hN.val] at hv
theorem kn_low {B x y n n' s : Nat} {L : List Nat} (hB : 1 ≤ B) (hx : x < B ^ n) (hy : B ^ (n' - 1) ≤ y) (h1 : 1 ≤ n') (hnn : n' ≤ n) (hL : L.length = n + 1) (hv : val B L = x * 2 ^ s) : val B (L.drop (n + 1 - n')) < y * 2 ^ s := by
  have h := val_split B L (n + 1 - n') (by omega)
  rw [hv] at h
  have hs : 1 ≤ 2 ^ s := Nat.one_le_two_pow
  rcases Nat.lt_or_ge (val B (L.drop (n + 1 - n'))) (y * 2 ^ s) with hlt | hge
  · exact hlt
  · exfalso
    have e1 : B ^ (n + 1 - n') * (y * 2 ^ s) ≤ B ^ (n + 1 - n') * val B (L.drop (n + 1 - n')) := Nat.mul_le_mul_left _ hge
    have e2 : B ^ n ≤ B ^ (n + 1 - n') * y := by
      have : B ^ n = B ^ (n + 1 - n') * B ^ (n' - 1) := by rw [← Nat.pow_add]; congr 1; omega
      rw [this]
      exact Nat.mul_le_mul_left _ hy
    have e3 : B ^ n * 2 ^ s ≤ B ^ (n + 1 - n') * y * 2 ^ s := Nat.mul_le_mul_right _ e2
    have e4 : x * 2 ^ s < B ^ n * 2 ^ s := Nat.mul_lt_mul_of_pos_right hx (by omega)
    rw [Nat.mul_assoc] at e3
    omega
theorem top_of_val {B : Nat} {l : List Nat} {m : Nat} (hd : Digs B l) (hl : l.length = m + 2) (hv : B ^ (m + 1) ≤ val B l) : 1 ≤ dg l (m + 1) := by
  rcases Nat.eq_zero_or_pos (dg l (m + 1)) with h0 | h0
  · exfalso
    have e : l = l.take (m + 1 + 1) := by rw [List.take_of_length_le (by omega)]
    have h1 : val B l = val B (l.take (m + 1)) := by
      have h2 := val_take_dg B l (m + 1)
      rw [h0, Nat.mul_zero, Nat.add_zero, ← e] at h2
      exact h2
    have h3 := val_lt (hd.take (m + 1))
    rw [List.length_take, Nat.min_eq_left (by omega)] at h3
    omega
  · exact h0
theorem dig_at {l : List Nat} {i : Nat} (h : i < l.length) : l[i]? = some (dg l i) := by
  rw [List.getElem?_eq_getElem h, dg_some (List.getElem?_eq_getElem h)]
theorem top_pos {B : Nat} {l : List Nat} {y n : Nat} (h : Num B l y) (hl : l.length = n) (hn : 1 ≤ n) : 1 ≤ dg l (n - 1) := by
  rcases Nat.eq_zero_or_pos (dg l (n - 1)) with h0 | h0
  · exfalso
    have ht := h.trim
    unfold Trim at ht
    apply ht
    rw [List.getLast?_eq_getElem?, hl, dig_at (by omega), h0]
  · exact h0

theorem WM.chg {S : Nat → Prop} {w w' : World} {A : Option Addr} {n c m : Nat} (h : WM w A n c m) (hc : Chg S w w') (hs : ∀ k, blk A = some k → ¬ S k) : WM w' A n c m := by
  obtain ⟨l, h1, h2⟩ := h
  exact ⟨l, h1.chg hc (fun k hk _ => hs k hk), h2⟩
theorem low_len' {s n : Nat} {L : List Nat} (hn : n ≤ L.length) : (lwL s n L n).take n = low 4294967296 (2 ^ s) (2 ^ (32 - s)) (L.take n) := by
  have hl : (low 4294967296 (2 ^ s) (2 ^ (32 - s)) (L.take n)).length = n := by rw [low_len]; simp; omega
  unfold lwL
  rw [List.take_of_length_le (l := low _ _ _ _) (by omega), List.take_left' hl]
theorem div_ends {x y s X D N n : Nat} {L q : List Nat} (hX : x * 2 ^ s = X) (hD : y * 2 ^ s = D) (h : KnI 4294967296 X D N n 0 L q) (hn : n ≤ N) (hDn : D ≤ 4294967296 ^ n) (hs : s < 32) :
    val 4294967296 q = x / y ∧ val 4294967296 (low 4294967296 (2 ^ s) (2 ^ (32 - s)) (L.take n)) = x % y := by
  obtain ⟨h1, h2⟩ := h.done
  have hp : 0 < 2 ^ s := Nat.pow_pos (by omega)
  have hlow := h.low
  rw [List.drop_zero] at hlow
  have hPQ : 2 ^ s * 2 ^ (32 - s) = 4294967296 := by rw [← Nat.pow_add, show s + (32 - s) = 32 by omega]
  refine ⟨by rw [h1, ← hX, ← hD, Nat.mul_div_mul_right _ _ hp], ?_⟩
  rw [low_val hPQ Nat.one_le_two_pow Nat.one_le_two_pow]
  have hsp := val_split 4294967296 L n (by rw [h.len]; exact hn)
  have h0 : val 4294967296 (L.drop n) = 0 := by
    rcases Nat.eq_zero_or_pos (val 4294967296 (L.drop n)) with h0 | h0
    · exact h0
    · have := Nat.le_mul_of_pos_right (4294967296 ^ n) h0
      omega
  rw [h0, Nat.mul_zero, Nat.add_zero] at hsp
  rw [← hsp, h2, ← hX, ← hD, Nat.mul_mod_mul_right, Nat.mul_div_cancel _ hp]

set_option maxRecDepth 100000 in
set_option maxHeartbeats 4000000 in
theorem divMag_long (A : Option Addr) (n c : Nat) (A' : Option Addr) (n' c' : Nat) (x y : Nat) (w : World) (hx : WM w A n c x) (hy : WM w A' n' c' y) (hn : n ≤ 900000) (hn' : 2 ≤ n') (hle : y ≤ x) :
    Calls Tryz.prog 54 #[.slice A n c, .slice A' n' c'] w fun e w' => ∃ Q nq cq R nr cr, e = .returned (.tuple #[.slice Q nq cq, .slice R nr cr]) ∧ Hid (WM w' Q nq cq (x / y) ∧ WM w' R nr cr (x % y) ∧ New w w') := by
  obtain ⟨la, ha, hc1, hc2, hNa⟩ := hx
  obtain ⟨lb, hb, hd1, hd2, hNb⟩ := hy
  have hla : la.length = n := by have := ha.len; rwa [nv_length] at this
  have hlb : lb.length = n' := by have := hb.len; rwa [nv_length] at this
  have hnn : n' ≤ n := by
    rcases Nat.lt_or_ge n n' with h | h
    · have := hNa.len_lt (by omega) hNb (by omega); omega
    · exact h
  obtain ⟨t, ht⟩ : ∃ t, dg lb (n' - 1) = t := ⟨_, rfl⟩
  have ht1 := top_pos hNb hlb (by omega)
  rw [ht] at ht1
  have htb : t < 4294967296 := by rw [← ht]; exact dg_lt hNb.digs (by omega) _
  obtain ⟨j1, hj1⟩ : ∃ j, n' - 1 = j := ⟨_, rfl⟩
  obtain ⟨bd, u, rfl, hu, hcu⟩ := hb.at_ (show j1 < n' by omega)
  obtain ⟨z, hz, rfl⟩ := nv_at hu
  obtain rfl : t = z := by rw [← ht, hj1, dg_some hz]
  have hji : (n' : Int) - 1 = (j1 : Int) := by omega
  have hjn : j1 < n' := by omega
  have H0 := Lib.hid (And.intro ha (And.intro hb (And.intro hNa (And.intro hNb (And.intro hla (And.intro hlb ht))))))
  have hcm : Calls Tryz.prog 53 #[.slice A n c, .slice (some bd) n' c'] w fun e w' => e = .returned (.int .i64 (cmpI x y)) ∧ ∃ q, w' = w.drewN q := cmpMag_any _ _ _ _ _ _ x y w ⟨la, ha, hc1, hc2, hNa⟩ ⟨lb, hb, hd1, hd2, hNb⟩
  have HC := Lib.hid hcm
  have hcv : decide (cmpI (x : Int) (y : Int) < 0) = false := by
    unfold cmpI
    rw [if_neg (by omega)]
    split <;> decide
  have hne1 : ((n' : Int) == 1) = false := by simp; omega
  clear hcm ha hb hNa hNb hla hlb ht hu hz hj1
  go_enter Tryz.func54, Tryz.ntmps54
  go_wp2_with fail
  go_step3
  go_wp2_with fail
  refine HC.out.mono ?_
  rintro e w1 ⟨rfl, q1, hq1⟩
  generalize cmpI (x : Int) (y : Int) = cv at *
  have hn1 : New w w1 := by rw [hq1]; exact (Chg.refl _ _).drewN q1
  have hcu1 := hn1.cell hcu (fun h => h)
  have HN1 := Lib.hid hn1
  clear hcu hn1 hq1 HC
  go_wp2_with fail
  refine (lz_any t ht1 htb w1).mono ?_
  rintro e w2 ⟨s, rfl, hs, HS, rfl⟩
  clear hcu1
  have hca : ∀ W', New w1 W' → Calls Tryz.prog 80 #[.slice A n c, .int .i64 s] W' fun e w' => ∃ g, e = .returned (.slice (some ⟨g, 0, none⟩) ((n + 1 : Nat)) ((n + 1 : Nat))) ∧ Hid (w'.ownsRow g 69 1 (.slice (some ⟨g, 0, none⟩) ((n + 1 : Nat)) ((n + 1 : Nat))) (n + 1) (nv .u32 (lst (n + 1) (shD 4294967296 (2 ^ s) (2 ^ (32 - s)) la)))) ∧ Hid (g = W'.heap.size) ∧ Hid (New W' w') := fun W' h =>
    (shifted_any A n c s W' la (H0.out.1.new (HN1.out.new h)) H0.out.2.2.1.digs hc1 (by unfold maxLen; omega) (by omega) hs).mono fun e w' ⟨g, h1, h2⟩ => ⟨g, h1, h2.out.1, h2.out.2.1, h2.out.2.2⟩
  have hcb : ∀ W', New w1 W' → Calls Tryz.prog 80 #[.slice (some bd) n' c', .int .i64 s] W' fun e w' => ∃ g, e = .returned (.slice (some ⟨g, 0, none⟩) ((n' + 1 : Nat)) ((n' + 1 : Nat))) ∧ Hid (w'.ownsRow g 69 1 (.slice (some ⟨g, 0, none⟩) ((n' + 1 : Nat)) ((n' + 1 : Nat))) (n' + 1) (nv .u32 (lst (n' + 1) (shD 4294967296 (2 ^ s) (2 ^ (32 - s)) lb)))) ∧ Hid (g = W'.heap.size) ∧ Hid (New W' w') := fun W' h =>
    (shifted_any (some bd) n' c' s W' lb (H0.out.2.1.new (HN1.out.new h)) H0.out.2.2.2.1.digs hd1 (by unfold maxLen; omega) (by omega) hs).mono fun e w' ⟨g, h1, h2⟩ => ⟨g, h1, h2.out.1, h2.out.2.1, h2.out.2.2⟩
  have HA := Lib.hid (And.intro hca hcb)
  clear hca hcb
  have hup := fun (W : World) (g : Nat) => run_upto elemU32 .i64 (some ⟨g, 0, none⟩) (n' + 1) (n' + 1) n' (n' : Int) rfl (by omega) W
  go_upto_region 7 with fail
  generalize hWb : w1 = Wb at *
  clear hWb
  go_cut [9, 10] from 48 to 56 (fun v u wc => ∃ g gd gN gD : Nat, v = .pointer (some ⟨gN, 0, none⟩) ∧ u = .pointer (some ⟨gD, 0, none⟩) ∧ Hid (Blk wc gN 27 #[.slice (some ⟨g, 0, none⟩) (n + 1) (n + 1)] ∧ Blk wc gD 27 #[.slice (some ⟨gd, 0, none⟩) n' (n' + 1)] ∧ gN ≠ gD ∧ g < gd ∧ wc.ownsRow g 69 1 (.slice (some ⟨g, 0, none⟩) ((n + 1 : Nat)) ((n + 1 : Nat))) (n + 1) (nv .u32 (lst (n + 1) (shD 4294967296 (2 ^ s) (2 ^ (32 - s)) la))) ∧ wc.ownsRow gd 69 1 (.slice (some ⟨gd, 0, none⟩) ((n' + 1 : Nat)) ((n' + 1 : Nat))) (n' + 1) (nv .u32 (lst (n' + 1) (shD 4294967296 (2 ^ s) (2 ^ (32 - s)) lb))) ∧ w.heap.size ≤ g ∧ w.heap.size ≤ gN ∧ w.heap.size ≤ gD ∧ New w wc))
  case first =>
    go_region_with (first
      | (go_at_call 80; (with_reducible refine (HA.out.1 _ ?_).mono ?_); (first | exact (Chg.refl _ _).drew | exact ((Chg.refl _ _).alloc _).drew | exact (((Chg.refl _ _).alloc _).alloc _).drew); rintro e w5 ⟨g, rfl, HO5, HG5, HN5⟩; (have HB5 : New Wb w5 := by (first | exact ((Chg.refl _ _).drew).new HN5.out | exact (((Chg.refl _ _).alloc _).drew).new HN5.out | exact ((((Chg.refl _ _).alloc _).alloc _).drew).new HN5.out)); obtain ⟨hc5, hf5⟩ := bcell (New.below HN5.out); (have hz5 := HN5.out.size); (try simp only [World.size_alloc, World.drew] at hz5); (try have hs51 : Wb.heap.size < w5.heap.size := by omega); (try have hs52 : Wb.heap.size + 1 < w5.heap.size := by omega))
      | (go_at_call 80; (with_reducible refine (HA.out.2 _ ?_).mono ?_); (first | exact HB5 | exact HB5.alloc _ | exact (HB5.alloc _).alloc _); rintro e w6 ⟨gd, rfl, HO6, HG6, HN6⟩; obtain ⟨hc6, hf6⟩ := bcell (New.below HN6.out); (have hz6 := HN6.out.size); (try simp only [World.size_alloc, World.drew] at hz6); (have HB6 : New Wb w6 := by (first | exact HB5.new HN6.out | exact (HB5.alloc _).new HN6.out | exact ((HB5.alloc _).alloc _).new HN6.out)); (try have hs61 : Wb.heap.size < w6.heap.size := by omega); (try have hs62 : Wb.heap.size + 1 < w6.heap.size := by omega); (try have hs63 : w5.heap.size < w6.heap.size := by omega); (try have hs64 : w5.heap.size + 1 < w6.heap.size := by omega)))
    all_goals
      clear hc5 hf5 hc6 hf6 hup
      go_wp2_with fail
      go_meet
      case rel =>
        have hg5 := HG5.out
        have hg6 := HG6.out
        (try simp only [World.size_alloc, World.drew] at hg5)
        (try simp only [World.size_alloc, World.drew] at hg6)
        have hg5b := (own_blk_le HO5.out (k := g) (by simp [blk])).2
        have hs0 := HN1.out.size
        have hz65 := HN6.out.size
        (try simp only [World.size_alloc] at hz65)
        have hw6 : New w w6 := HN1.out.new HB6
        refine ⟨g, gd, _, _, rfl, rfl, ?_, ?_, ?_, ?_, ?_, ?_, ?_, ?_, ?_, ?_⟩
        · repeat (first | (refine Blk.new' ?_; (first | rfl | (simp; done))) | refine Blk.alloc ?_ _ | refine Blk.set1 (x := .slice none 0 0) ?_ _ | (refine Blk.far (p := ⟨_, 0, none⟩) ?_ ?_ _; rotate_left; (dsimp only; omega)) | refine Blk.chg ?_ HN6.out (fun h => h) | refine Blk.chg ?_ HN5.out (fun h => h) | refine Blk.drew ?_)
        · repeat (first | (refine Blk.new' ?_; (first | rfl | (simp; done))) | refine Blk.alloc ?_ _ | refine Blk.set1 (x := .slice none 0 0) ?_ _ | (refine Blk.far (p := ⟨_, 0, none⟩) ?_ ?_ _; rotate_left; (dsimp only; omega)) | refine Blk.chg ?_ HN6.out (fun h => h) | refine Blk.chg ?_ HN5.out (fun h => h) | refine Blk.drew ?_)
        · omega
        · omega
        · repeat (first | exact HO5.out | refine own_al ?_ _ | (refine own_fr (p := ⟨_, 0, none⟩) ?_ ?_ _; rotate_left; (dsimp only; omega)) | refine own_nw ?_ HN6.out)
        · repeat (first | exact HO6.out | refine own_al ?_ _ | (refine own_fr (p := ⟨_, 0, none⟩) ?_ ?_ _; rotate_left; (dsimp only; omega)))
        · omega
        · omega
        · omega
        · repeat (first | exact hw6 | refine Chg.alloc ?_ _ | refine Chg.setCell ?_ (fun h => absurd h (by dsimp only; omega)) _)
  case rest =>
    obtain ⟨g, gd, gN, gD, rfl, rfl, HR⟩ := hcut
    clear HA hup
    obtain ⟨bN, bD, hND, hggd, ho, hod, hwg, hwN, hwD, hnw⟩ := HR.out
    obtain ⟨N, hN⟩ : ∃ N, n + 1 = N := ⟨_, rfl⟩
    obtain ⟨K, hK⟩ : ∃ K, N - n' = K := ⟨_, rfl⟩
    have hKi : (N : Int) - (n' : Int) = (K : Int) := by omega
    have hK1 : 1 ≤ K := by omega
    have hNb : N ≤ 900001 := by omega
    have hKN : K + n' = N := by omega
    have hkD := bD.cell 0 (u := .slice (some ⟨gd, 0, none⟩) n' (n' + 1)) rfl
    obtain ⟨hNaX, hNbX, hlaX, hlbX, htX⟩ := H0.out.2.2
    obtain ⟨hnumd, hnumv⟩ := num_facts hNaX hlaX hs
    obtain ⟨hdend, hdenv⟩ := den_facts hNbX hlbX hn' hs (by rw [htX]; exact HS.out)
    obtain ⟨L, hL⟩ : ∃ L, lst (n + 1) (shD 4294967296 (2 ^ s) (2 ^ (32 - s)) la) = L := ⟨_, rfl⟩
    obtain ⟨ld2, hld2⟩ : ∃ l, lst (n' + 1) (shD 4294967296 (2 ^ s) (2 ^ (32 - s)) lb) = l := ⟨_, rfl⟩
    obtain ⟨ld, hld⟩ : ∃ l, ld2.take n' = l := ⟨_, rfl⟩
    rw [hL] at hnumd hnumv ho
    have hLl : L.length = N := by rw [← hL, lst_len, hN]
    rw [hN] at ho bN
    have hkN := bN.cell 0 (u := .slice (some ⟨g, 0, none⟩) N N) rfl
    rw [hld2] at hod
    rw [hld2, hld] at hdend hdenv
    have hld2l : ld2.length = n' + 1 := by rw [← hld2, lst_len]
    have hldl : ld.length = n' := by rw [← hld]; simp [hld2l]
    have hrd : Rd wc (some ⟨gd, 0, none⟩) n' (nv .u32 ld) := by
      have := (Rd.of_own hod).take (k := n') (by omega)
      rwa [nv_take, hld] at this
    obtain ⟨m, hm⟩ : ∃ m, n' = m + 2 := ⟨n' - 2, by omega⟩
    have hj1m : j1 = m + 1 := by omega
    obtain ⟨ld1, hld1⟩ : ∃ d, dg ld j1 = d := ⟨_, rfl⟩
    obtain ⟨nx, hnx⟩ : ∃ d, dg ld m = d := ⟨_, rfl⟩
    have hk1 : wc.cell? ⟨gd, j1, none⟩ = some (.int .u32 (ld1 : Int)) := by
      have := hrd.at_ (k := j1) (by omega)
      obtain ⟨ad, u, hA, hu, hc⟩ := this
      injection hA with hA
      subst hA
      obtain ⟨z, hz, rfl⟩ := nv_at hu
      rw [Addr.add_lit, Nat.zero_add] at hc
      rw [hc, ← hld1, dg_some hz]
    have hk0 : wc.cell? ⟨gd, m, none⟩ = some (.int .u32 (nx : Int)) := by
      have := hrd.at_ (k := m) (by omega)
      obtain ⟨ad, u, hA, hu, hc⟩ := this
      injection hA with hA
      subst hA
      obtain ⟨z, hz, rfl⟩ := nv_at hu
      rw [Addr.add_lit, Nat.zero_add] at hc
      rw [hc, ← hnx, dg_some hz]
    have hld1b : ld1 < 4294967296 := by rw [← hld1]; exact dg_lt hdend (by omega) _
    have hnxb : nx < 4294967296 := by rw [← hnx]; exact dg_lt hdend (by omega) _
    have hmn : m < n' := by omega
    have hw1 : IntKind.i64.wrap ((n' : Int) - 1) = (j1 : Int) := by rw [IntWalk.i64_in _ (by omega)]; omega
    have hw2 : IntKind.i64.wrap ((n' : Int) - 2) = (m : Int) := by rw [IntWalk.i64_in _ (by omega)]; omega
    have HM := Lib.hid (And.intro hm (And.intro hj1m (And.intro hN (And.intro hK hKN))))
    have HD := Lib.hid (And.intro hnumd (And.intro hnumv (And.intro hdend (And.intro hdenv (And.intro hLl (And.intro hldl (And.intro hld1 (And.intro hnx (And.intro hrd (And.intro ho (And.intro bN (And.intro bD (And.intro hND (And.intro hggd (And.intro hwg (And.intro hwN (And.intro hwD hnw)))))))))))))))))
    clear hm hj1m hN hK hKN hnumd hnumv hdend hdenv hLl hldl hld1 hnx hrd ho bN bD hND hggd hwg hwN hwD hnw hL hld2 hld hld2l hod HR hNaX hNbX hlaX hlbX htX hji
    go_upto_region 9 with fail
    refine Code.new1 ?_
    intro W1 bn hnW1 hzW1
    obtain ⟨gn, hgn⟩ : ∃ k, wc.heap.size = k := ⟨_, rfl⟩
    rw [hgn] at bn
    simp only [hgn]
    have hkN1 := hnW1.cell hkN (fun h => h)
    have hkD1 := hnW1.cell hkD (fun h => h)
    have hk11 := hnW1.cell hk1 (fun h => h)
    have hk01 := hnW1.cell hk0 (fun h => h)
    have hkn1 := bn.cell 0 (u := .int .i64 n') rfl
    have H1 := Lib.hid (And.intro bn (And.intro hnW1 hgn))
    clear hkN hkD hk1 hk0 bn hnW1 hzW1 hgn
    go_quiet (fail)
    obtain ⟨W2, hW2⟩ : ∃ W2, W1.drewN nq = W2 := ⟨_, rfl⟩
    have hn12 : New W1 W2 := by rw [← hW2]; exact (Chg.refl _ _).drewN nq
    simp only [hW2]
    have hkN2 := hn12.cell hkN1 (fun h => h)
    have hkn2 := hn12.cell hkn1 (fun h => h)
    have HN2 := Lib.hid hn12
    clear hkN1 hkD1 hk11 hk01 hkn1 hW2 hn12 hw1 hw2
    go_wp2_with (at_make; refine wpList_mk elemU32 rfl rfl _ _ rfl (n := K) rfl rfl (by omega) (by omega) (by omega) (by simp only [maxLen]; omega) ?_; intro w3 hown3 hg3 hz3; have HMK := Lib.hid (And.intro hown3 (And.intro hg3 hz3)); have hkN3 := hg3.cell hkN2 (fun h => h); have hkn3 := hg3.cell hkn2 (fun h => h); clear hown3 hg3 hz3)
    refine Code.new1 ?_
    intro W bQ hnW hzW
    obtain ⟨gq, hgq⟩ : ∃ k, W2.heap.size = k := ⟨_, rfl⟩
    obtain ⟨gQ, hgQ⟩ : ∃ k, w3.heap.size = k := ⟨_, rfl⟩
    obtain ⟨hmk1, hmk2, hmk3⟩ := HMK.out
    obtain ⟨hm, hj1m, hN, hK, hKN⟩ := HM.out
    obtain ⟨hnumd, hnumv, hdend, hdenv, hLl, hldl, hld1, hnx, hrd, ho, bN, bD, hND, hggd, hwg, hwN, hwD, hnw⟩ := HD.out
    obtain ⟨bn, hnW1, hgn⟩ := H1.out
    obtain ⟨haX, hbX, hNaX, hNbX, hlaX, hlbX, htX⟩ := H0.out
    rw [hgq] at hmk1 bQ
    rw [hgQ] at bQ
    have hnc : New wc W := ((hnW1.new HN2.out).new hmk2).new hnW
    have hDpos : 1 ≤ y * 2 ^ s := by
      have h1 : 1 ≤ y := by
        have := hNbX.nil_iff (by omega)
        rcases Nat.eq_zero_or_pos y with h0 | h0
        · rw [this.2 h0] at hlbX; simp at hlbX; omega
        · exact h0
      exact Nat.mul_pos h1 (Nat.pow_pos (by omega))
    have hsz := hnW1.size
    have hsz2 := HN2.out.size
    have hgNl := bN.lt
    have hgDl := bD.lt
    have hgl := (own_blk_le ho (k := g) (by simp [blk])).2
    have hgnl := bn.lt
    have hgdl : gd < wc.heap.size := by
      obtain ⟨ad, u, hA, hu, hc⟩ := hrd.at_ (k := 0) (by omega)
      injection hA with hA
      subst hA
      exact World.block_lt_of_cell? _ _ (by rw [Addr.add_lit] at hc; exact hc)
    have hgNg : gN ≠ g := fun e => (bN.ne_own ho (by decide)) (by simp [blk, e])
    have hgDg : gD ≠ g := fun e => (bD.ne_own ho (by decide)) (by simp [blk, e])
    have hDC : DvC W g gd gq gN gn gD gQ N n' ld (y * 2 ^ s) := ⟨bN.chg hnc (fun h => h), bn.chg ((HN2.out.new hmk2).new hnW) (fun h => h), bD.chg hnc (fun h => h), by rw [hK]; exact bQ, hrd.new hnc, hdend, hdenv, hDpos, by omega, by omega, by omega⟩
    have hstart : DvW W g gq (x * 2 ^ s) (y * 2 ^ s) N n' K W := by
      refine ⟨L, List.replicate K 0, ?_, own_chg ho hnc (fun _ _ h => h), ?_, Chg.refl _ _⟩
      · have := KnI.start (B := 4294967296) (X := x * 2 ^ s) (D := y * 2 ^ s) (N := N) (n := n') (L := L) (by omega) hLl hnumd hnumv (by
          rw [← hN]
          refine kn_low (by omega) (hNaX.lt (by omega) (by omega)) ?_ (by omega) hnn (by omega) hnumv
          have := val_pos (B := 4294967296) (by omega) hNbX.trim (by intro e; rw [e] at hlbX; simp at hlbX; omega)
          rwa [hlbX, hNbX.val] at this)
        rwa [hK] at this
      · rw [hK]
        have := own_chg hmk1 hnW (fun _ _ h => h)
        rwa [show List.replicate K (Value.int .u32 0) = nv .u32 (List.replicate K 0) by simp [nv]] at this
    have HX := Lib.hid (And.intro hDC (And.intro hstart (And.intro (hnw.new hnc) (And.intro hwg (show w.heap.size ≤ gq by have := hnw.size; omega)))))
    have HTV : Hid (4294967296 ^ (m + 1) ≤ val 4294967296 ld) := by
      show _ ≤ _
      rw [hdenv]
      have := val_pos (B := 4294967296) (by omega) hNbX.trim (by intro e; rw [e] at hlbX; simp at hlbX; omega)
      rw [hlbX, hNbX.val, hm, show m + 2 - 1 = m + 1 by omega] at this
      exact Nat.le_trans this (Nat.le_mul_of_pos_right _ (Nat.pow_pos (by omega)))
    simp only [hgq]
    simp only [hgQ]
    clear hgq hgQ hmk1 hmk2 hmk3 hm hj1m hN hK hKN hnumd hnumv hdend hdenv hLl hldl hld1 hnx hrd ho bN bD hND hggd hwg hwN hwD hnw bn hnW1 hgn haX hbX hNaX hNbX hlaX hlbX htX bQ hnc hDpos hsz hsz2 hgNl hgDl hgl hgnl hgdl hgNg hgDg hDC hstart hnW hzW HMK hkN3 hkn3 hkN2 hkn2
    have hkNW := HX.out.1.bN.cell 0 (u := .slice (some ⟨g, 0, none⟩) N N) rfl
    have hknW := HX.out.1.bn.cell 0 (u := .int .i64 n') rfl
    obtain ⟨X, hX⟩ : ∃ X, x * 2 ^ s = X := ⟨_, rfl⟩
    obtain ⟨D, hD⟩ : ∃ D, y * 2 ^ s = D := ⟨_, rfl⟩
    rw [hX, hD] at HX
    have HXD := Lib.hid (And.intro hX hD)
    clear hX hD
    go_step3
    go_wp2_with fail
    clear hkNW hknW hKi
    go_loopg [16] K (fun k s16 wr => s16 = .int .i64 ((k : Int) - 1) ∧ k ≤ K ∧ Hid (DvW W g gq X D N n' k wr))
    case atStart => exact ⟨rfl, Nat.le_refl _, HX.out.2.1⟩
    case round =>
      obtain ⟨rfl, hkK, HV⟩ := hrel
      obtain ⟨wo, rfl⟩ : ∃ wo : World, wo = wr := ⟨_, rfl⟩
      have hCW := HX.out.1.chg HV.out.choose_spec.choose_spec.2.2.2
      have hkNo := hCW.bN.cell 0 (u := .slice (some ⟨g, 0, none⟩) N N) rfl
      have hkno := hCW.bn.cell 0 (u := .int .i64 n') rfl
      have hkQo := hCW.bQ.cell 0 (u := .slice (some ⟨gq, 0, none⟩) (N - n') (N - n')) rfl
      have HCW := Lib.hid hCW
      clear hCW
      cases gk with
      | zero =>
        obtain ⟨Lc, qc, hKn, hLo, hqo, hcho⟩ := HV.out
        obtain ⟨hm, hj1m, hN, hK, hKN⟩ := HM.out
        have hC0 := HX.out.1
        have hDn : D ≤ 4294967296 ^ n' := by
          have h1 := val_lt hC0.dd
          have h2 := hC0.rd.len
          rw [nv_length] at h2
          rw [hC0.vd, h2] at h1
          omega
        obtain ⟨hv1, hv2⟩ := div_ends HXD.out.1 HXD.out.2 hKn (by omega) hDn hs
        have hne := hC0.ne
        have hnN : n' ≤ N := by omega
        have hT1 : ∀ W', New wo W' → Calls Tryz.prog 36 #[.slice (some ⟨gq, 0, none⟩) (N - n') (N - n')] W' fun e w' => ∃ T, e = .returned (.slice (some ⟨gq, 0, none⟩) T (N - n')) ∧ Hid (WM W' (some ⟨gq, 0, none⟩) T (N - n') (x / y)) ∧ W' = w' := fun W' h =>
          (trim_wm _ _ _ qc W' ((Rd.of_own hqo).new h) hKn.qdigs (Nat.le_refl _) (by omega)).mono fun e w' ⟨T, h1, h2, h3⟩ => ⟨T, h1, by have := h2.out.1; rw [hv1] at this; exact this, h3⟩
        have hLw : ∀ W', New wo W' → Calls Tryz.prog 83 #[.slice (some ⟨g, 0, none⟩) n' N, .int .i64 s] W' fun e w' => e = .returned (.slice (some ⟨g, 0, none⟩) n' N) ∧ Hid (w'.ownsRow g 69 1 (.slice (some ⟨g, 0, none⟩) N N) N (nv .u32 (lwL s n' Lc n')) ∧ Chg (fun k => k = g) wo w') := fun W' h =>
          (lowered_any g n' N s Lc W' (own_chg hLo h (fun _ _ h => h)) hKn.digs hnN (by omega) hs).mono fun e w' ⟨h1, h2⟩ => ⟨h1, h2.out.1, (h.mono (fun _ _ h => h.elim)).trans h2.out.2 (fun _ _ h => h)⟩
        have hT2 : ∀ W', W'.ownsRow g 69 1 (.slice (some ⟨g, 0, none⟩) N N) N (nv .u32 (lwL s n' Lc n')) → Calls Tryz.prog 36 #[.slice (some ⟨g, 0, none⟩) n' N] W' fun e w' => ∃ T, e = .returned (.slice (some ⟨g, 0, none⟩) T N) ∧ Hid (WM W' (some ⟨g, 0, none⟩) T N (x % y)) ∧ W' = w' := fun W' h => by
          have hr := (Rd.of_own h).take (k := n') hnN
          rw [nv_take, low_len' (by rw [hKn.len]; exact hnN)] at hr
          exact (trim_wm _ _ _ _ W' hr (low_digs (by rw [← Nat.pow_add, show s + (32 - s) = 32 by omega]) Nat.one_le_two_pow Nat.one_le_two_pow (hKn.digs.take n')) hnN (by omega)).mono fun e w' ⟨T, h1, h2, h3⟩ => ⟨T, h1, by have := h2.out.1; rw [hv2] at this; exact this, h3⟩
        have HT := Lib.hid (And.intro hT1 (And.intro hLw hT2))
        have HEND := Lib.hid (And.intro hcho (And.intro HX.out.2.2 hne))
        have hup : ∀ W, (Instr.slice 27 (.slice (some ⟨g, 0, none⟩) N N) none (some (.int .i64 (n' : Int))) none).run Tryz.prog W = .ok (.slice (some ⟨g, 0, none⟩) n' N) W := fun W => run_upto elemU32 .i64 (some ⟨g, 0, none⟩) N N n' (n' : Int) rfl hnN W
        clear hKn hLo hqo hcho hm hj1m hN hK hKN hC0 hDn hv1 hv2 hne hT1 hLw hT2
        have hneg : decide ((0 : Int) ≤ ((0 : Nat) : Int) - 1) = false := by simp
        rw [show (((0 : Nat) : Int) - 1) = -1 by rfl]
        go_wp2_with fail
        go_region_held3 (fun w' => w'.cell? ⟨gQ, 0, none⟩ = some (.slice (some ⟨gq, 0, none⟩) (N - n') (N - n')) ∧ w'.cell? ⟨gN, 0, none⟩ = some (.slice (some ⟨g, 0, none⟩) N N) ∧ w'.cell? ⟨gn, 0, none⟩ = some (.int .i64 n')) (first | exact ⟨by assumption, by assumption, by assumption⟩)
          (first
            | (go_at_call 36; (with_reducible refine (HT.out.1 _ ?_).mono ?_); exact (Chg.refl _ _).drew; rintro e w4 ⟨T1, rfl, HW4, rfl⟩)
            | (go_at_call 83; (with_reducible refine (HT.out.2.1 _ ?_).mono ?_); exact (Chg.refl _ _).drew; rintro e w5 ⟨rfl, H5⟩; have hd1 := H5.out.2.cell hkQo (by have := HEND.out.2.2; dsimp only; omega); have hd2 := H5.out.2.cell hkNo (by have := HEND.out.2.2; dsimp only; omega); have hd3 := H5.out.2.cell hkno (by have := HEND.out.2.2; dsimp only; omega))
            | (go_at_call 36; (with_reducible refine (HT.out.2.2 _ H5.out.1).mono ?_); rintro e w6 ⟨T2, rfl, HW6, rfl⟩))
        all_goals
          clear hd1 hd2 hd3 hkNo hkno hkQo hup
          go_wp2_with fail
          (try rw [Exit.noGoto_ret])
          go_ret2
          obtain ⟨hcho, ⟨hnW, hg1, hg2⟩, hne⟩ := HEND.out
          have hc5 : Chg (fun k => k = g) wo.drew w5 := ⟨H5.out.2.os, H5.out.2.tape, H5.out.2.output, H5.out.2.size, H5.out.2.block⟩
          refine ⟨_, _, _, _, _, _, rfl, HW4.out.chg hc5 (fun k hk e => by simp [blk] at hk; omega), HW6.out, ?_⟩
          refine hnW.trans (T := fun k => k = g ∨ k = gq) (hcho.trans H5.out.2 (fun _ _ h => .inl h)) (fun k hk e => by omega)
      | succ j =>
        have hj0 : (((j + 1 : Nat) : Int) - 1) = (j : Int) := by omega
        rw [hj0]
        clear hj0
        obtain ⟨Lc, qc, hKn, hLo, hqo, hcho⟩ := HV.out
        obtain ⟨hm, hj1m, hN, hK, hKN⟩ := HM.out
        obtain ⟨hnumd, hnumv, hdend, hdenv, hLl, hldl, hld1, hnx, hrd, ho, bN, bD, hND, hggd, hwg, hwN, hwD, hnw⟩ := HD.out
        have hjn : j + (n' + 1) ≤ N := by omega
        obtain ⟨U, hU⟩ : ∃ U, val 4294967296 ((Lc.drop j).take (n' + 1)) = U := ⟨_, rfl⟩
        have hes := hKn.esb (m := m) (b := ld) (by omega) hm hdend hldl HX.out.1.vd (top_of_val hdend (by omega) HTV.out) hU
        have hu2 := own_cell hLo (i := j + n') (u := .int .u32 (dg Lc (j + n') : Nat)) (by rw [nv, List.getElem?_map, dig_at (by have := hKn.len; omega)]; rfl)
        have hu1 := own_cell hLo (i := j + j1) (u := .int .u32 (dg Lc (j + j1) : Nat)) (by rw [nv, List.getElem?_map, dig_at (by have := hKn.len; omega)]; rfl)
        have hu0 := own_cell hLo (i := j + m) (u := .int .u32 (dg Lc (j + m) : Nat)) (by rw [nv, List.getElem?_map, dig_at (by have := hKn.len; omega)]; rfl)
        have hb2 := dg_lt hKn.digs (by omega) (j + n')
        have hb1 := dg_lt hKn.digs (by omega) (j + j1)
        have hb0 := dg_lt hKn.digs (by omega) (j + m)
        rw [← hm, ← hj1m, hld1, hnx] at hes
        obtain ⟨u2, hu2e⟩ : ∃ d, dg Lc (j + n') = d := ⟨_, rfl⟩
        obtain ⟨u1, hu1e⟩ : ∃ d, dg Lc (j + j1) = d := ⟨_, rfl⟩
        obtain ⟨u0, hu0e⟩ : ∃ d, dg Lc (j + m) = d := ⟨_, rfl⟩
        obtain ⟨a2, ha2⟩ : ∃ a, j + n' = a := ⟨_, rfl⟩
        obtain ⟨a1, ha1⟩ : ∃ a, j + j1 = a := ⟨_, rfl⟩
        obtain ⟨a0, ha0⟩ : ∃ a, j + m = a := ⟨_, rfl⟩
        rw [hu2e] at hu2 hb2 hes
        rw [hu1e] at hu1 hb1 hes
        rw [hu0e] at hu0 hb0 hes
        rw [ha2] at hu2
        rw [ha1] at hu1
        rw [ha0] at hu0
        obtain ⟨T, hT⟩ : ∃ T, u2 * 4294967296 + u1 = T := ⟨_, rfl⟩
        rw [hT] at hes
        have hld11 : 1 ≤ ld1 := hes.ld1
        obtain ⟨Q, hQ⟩ : ∃ Q, U / D = Q := ⟨_, rfl⟩
        rw [hQ] at hes
        have hor : bits .or .u64 ((u2 : Int) * 4294967296) (u1 : Int) = (T : Int) := by rw [shl_or32 u2 u1 hb2 hb1, hT]
        have hTb : T < 18446744073709551616 := by omega
        have hi2 : (j : Int) + (n' : Int) = (a2 : Int) := by omega
        have hi1 : (a2 : Int) - 1 = (a1 : Int) := by omega
        have hi0 : (a2 : Int) - 2 = (a0 : Int) := by omega
        have haN : a2 < N ∧ a1 < N ∧ a0 < N := by omega
        have hw2 : IntKind.i64.wrap ((j : Int) + (n' : Int)) = (a2 : Int) := by rw [IntWalk.i64_in _ (by omega)]; omega
        have hw1 : IntKind.i64.wrap ((a2 : Int) - 1) = (a1 : Int) := by rw [IntWalk.i64_in _ (by omega)]; omega
        have HE := Lib.hid (And.intro hKn (And.intro hLo (And.intro hqo (And.intro hcho (And.intro hU (And.intro hQ (And.intro hes hT)))))))
        have HA2 := Lib.hid (And.intro hi2 hi0)
        clear hKn hLo hqo hcho hm hj1m hN hK hKN hnumd hnumv hdend hdenv hLl hldl hld1 hnx hrd ho bN bD hND hggd hwg hwN hwD hnw hU hes hu2e hu1e hu0e ha2 ha1 ha0 hT hQ hi2 hi1 hi0
        go_wp2_with fail
        go_quiet (fail)
        obtain ⟨wp, hwp⟩ : ∃ wp, wo.drewN nq = wp := ⟨_, rfl⟩
        have hnp : New wo wp := by rw [← hwp]; exact (Chg.refl _ _).drewN nq
        simp only [hwp]
        obtain ⟨dq, hdq⟩ : ∃ d, T / ld1 = d := ⟨_, rfl⟩
        obtain ⟨rq, hrq⟩ : ∃ d, T % ld1 = d := ⟨_, rfl⟩
        have hdv2 : (T : Int) / (ld1 : Int) = (dq : Int) := by rw [← hdq]; simp
        have hmd2 : (T : Int) % (ld1 : Int) = (rq : Int) := by rw [← hrq]; simp
        have hdv : (T : Int).tdiv (ld1 : Int) = (dq : Int) := by rw [Int.tdiv_eq_ediv_of_nonneg (by omega), hdv2]
        have hmd : (T : Int).tmod (ld1 : Int) = (rq : Int) := by rw [Int.tmod_eq_emod_of_nonneg (by omega), hmd2]
        have hdqb : dq < 18446744073709551616 := by rw [← hdq]; exact Nat.lt_of_le_of_lt (Nat.div_le_self _ _) hTb
        have hrqb : rq < 4294967296 := by rw [← hrq]; exact Nat.lt_trans (Nat.mod_lt _ (by omega)) hld1b
        have HQR := Lib.hid (And.intro hdq hrq)
        clear hdq hrq
        have hld0 : ((ld1 : Int) == 0) = false := by simp; omega
        have hld0' : ¬ (ld1 : Int) = 0 := by omega
        have HNP := Lib.hid hnp
        have HU0 := Lib.hid hu0
        clear hnp hwp hw2 hw1 hkNo hkno hkQo hu2 hu1 hu0 hor
        go_wp2_with fail
        go_quiet (fail)
        obtain ⟨wq, hwq⟩ : ∃ wq, wp.drewN nq = wq := ⟨_, rfl⟩
        have hnq : New wo wq := HNP.out.new (by rw [← hwq]; exact (Chg.refl _ _).drewN nq)
        simp only [hwq]
        have hset : ∀ dgt, dgt < 4294967296 → Q ≤ dgt → dgt ≤ Q + 1 → Calls Tryz.prog 81 #[.int .i64 j, .int .u64 dgt, .pointer (some ⟨gN, 0, none⟩), .pointer (some ⟨gn, 0, none⟩), .pointer (some ⟨gD, 0, none⟩), .pointer (some ⟨gQ, 0, none⟩)] wq fun e w' => (∃ v, e = .returned v) ∧ Hid (DvW W g gq X D N n' j w') := fun dgt h1 h2 h3 => by
          obtain ⟨hKn, hLo, hqo, hcho, hU, hQ, hes, hT⟩ := HE.out
          exact settle_any wq HX.out.1 hKn (own_chg hLo hnq (fun _ _ h => h)) (own_chg hqo hnq (fun _ _ h => h)) (hcho.new hnq) hjn hU hQ h1 h2 h3
        have hkNq := (HCW.out.bN.chg hnq (fun h => h)).cell 0 (u := .slice (some ⟨g, 0, none⟩) N N) rfl
        have hknq := (HCW.out.bn.chg hnq (fun h => h)).cell 0 (u := .int .i64 n') rfl
        have hu0q := hnq.cell HU0.out (fun h => h)
        have HSET := Lib.hid hset
        have HES := Lib.hid (EsI.start HE.out.2.2.2.2.2.2.1 (Nat.one_le_pow _ _ (by omega)))
        rw [HQR.out.1, HQR.out.2] at HES
        clear hwq hset hnq hdv2 hmd2 hdv hmd hld0 hld0'
        go_wp2_with fail
        go_loopg [18, 19] dq (fun d s18 s19 wi => ∃ r : Nat, s18 = .int .u64 (d : Int) ∧ s19 = .int .u64 (r : Int) ∧ r < 4294967296 ∧ d < 18446744073709551616 ∧ Hid (EsI 4294967296 T ld1 nx u0 Q d r) ∧ wi = wq)
        case atStart => exact ⟨rq, rfl, rfl, hrqb, hdqb, HES, rfl⟩
        case round =>
          obtain ⟨r, rfl, rfl, hrb, hdb, HI, rfl⟩ := hrel
          obtain ⟨M, hM⟩ : ∃ M, gk * nx = M := ⟨_, rfl⟩
          obtain ⟨R, hR⟩ : ∃ R, r * 4294967296 + u0 = R := ⟨_, rfl⟩
          have hRb : R < 18446744073709551616 := by omega
          have hor2 : bits .or .u64 ((r : Int) * 4294967296) (u0 : Int) = (R : Int) := by rw [shl_or32 r u0 hrb hb0, hR]
          have hw2 : (j : Int) + (n' : Int) = (a2 : Int) := HA2.out.1
          have hw0 : (a2 : Int) - 2 = (a0 : Int) := HA2.out.2
          by_cases hB : gk < 4294967296
          · have hsh : (gk : Int) / 4294967296 = 0 := by omega
            have hMb : M < 18446744073709551616 := by
              rw [← hM]
              exact Nat.lt_of_le_of_lt (Nat.mul_le_mul (show gk ≤ 4294967295 by omega) (show nx ≤ 4294967295 by omega)) (by decide)
            have hMi : (gk : Int) * (nx : Int) = (M : Int) := by rw [← hM]; simp
            by_cases hle : M ≤ R
            · have hfin := HI.out.exit HE.out.2.2.2.2.2.2.1 (.inl ⟨hB, by omega⟩)
              have hst := HSET.out gk hfin.1 hfin.2.1 hfin.2.2
              have HST := Lib.hid hst
              have hgt : decide ((R : Int) < (M : Int)) = false := by simp; omega
              have hgt' : decide (R < M) = false := by simp; omega
              clear hst hM hR hfin
              go_wp2_with fail
              refine HST.out.mono ?_
              rintro e w5 ⟨⟨ve, rfl⟩, H5⟩
              go_wp2_with fail
              go_roundg j
              case rel => exact ⟨rfl, by omega, H5⟩
              all_goals omega
            · obtain ⟨hd1, hIn⟩ := HI.out.down HE.out.2.2.2.2.2.2.1 (.inr (by omega))
              obtain ⟨d', hd'⟩ : ∃ d, gk - 1 = d := ⟨_, rfl⟩
              rw [hd'] at hIn
              obtain ⟨r2, hr2⟩ : ∃ d, r + ld1 = d := ⟨_, rfl⟩
              rw [hr2] at hIn
              have hdi : (gk : Int) - 1 = (d' : Int) := by omega
              have hri : (r : Int) + (ld1 : Int) = (r2 : Int) := by omega
              have hdlt : d' < gk := by omega
              have hr2b : r2 < 8589934592 := by omega
              have HIN := Lib.hid hIn
              have hgt : (R : Int) < (M : Int) := by omega
              have hgt' : R < M := by omega
              by_cases hover : r2 < 4294967296
              · have hs2 : (r2 : Int) / 4294967296 = 0 := by omega
                clear hIn hd' hr2 hM hR
                go_wp2_with fail
                go_roundg d'
                case rel => exact ⟨r2, rfl, rfl, hover, by omega, HIN, rfl⟩
                all_goals omega
              · have hs2 : (r2 : Int) / 4294967296 = 1 := by omega
                have hfin := hIn.exit HE.out.2.2.2.2.2.2.1 (.inr (by omega))
                have hst := HSET.out d' hfin.1 hfin.2.1 hfin.2.2
                have HST := Lib.hid hst
                clear hIn hd' hr2 hM hR hst hfin
                go_wp2_with fail
                refine HST.out.mono ?_
                rintro e w5 ⟨⟨ve, rfl⟩, H5⟩
                go_wp2_with fail
                go_roundg j
                case rel => exact ⟨rfl, by omega, H5⟩
                all_goals omega
          · obtain ⟨hd1, hIn⟩ := HI.out.down HE.out.2.2.2.2.2.2.1 (.inl (by omega))
            obtain ⟨d', hd'⟩ : ∃ d, gk - 1 = d := ⟨_, rfl⟩
            rw [hd'] at hIn
            obtain ⟨r2, hr2⟩ : ∃ d, r + ld1 = d := ⟨_, rfl⟩
            rw [hr2] at hIn
            have hdi : (gk : Int) - 1 = (d' : Int) := by omega
            have hri : (r : Int) + (ld1 : Int) = (r2 : Int) := by omega
            have hdlt : d' < gk := by omega
            have hr2b : r2 < 8589934592 := by omega
            have HIN := Lib.hid hIn
            obtain ⟨hq, hhq⟩ : ∃ d, gk / 4294967296 = d := ⟨_, rfl⟩
            have hsh : (gk : Int) / 4294967296 = (hq : Int) := by omega
            have hne : ((hq : Int) != 0) = true := by simp; omega
            have hq0 : ¬ hq = 0 := by omega
            clear hhq
            by_cases hover : r2 < 4294967296
            · have hs2 : (r2 : Int) / 4294967296 = 0 := by omega
              clear hIn hd' hr2 hM hR
              go_wp2_with fail
              go_roundg d'
              case rel => exact ⟨r2, rfl, rfl, hover, by omega, HIN, rfl⟩
              all_goals omega
            · have hs2 : (r2 : Int) / 4294967296 = 1 := by omega
              have hfin := hIn.exit HE.out.2.2.2.2.2.2.1 (.inr (by omega))
              have hst := HSET.out d' hfin.1 hfin.2.1 hfin.2.2
              have HST := Lib.hid hst
              clear hIn hd' hr2 hM hR hst hfin
              go_wp2_with fail
              refine HST.out.mono ?_
              rintro e w5 ⟨⟨ve, rfl⟩, H5⟩
              go_wp2_with fail
              go_roundg j
              case rel => exact ⟨rfl, by omega, H5⟩
              all_goals omega

end Go.Proofs.YtblcaeoeeepajaaGreatDoor

namespace Go.Proofs.YtblcaeoeeepajaaGreatDoor
set_option linter.unusedVariables false
open Go.RowKit Go.Mem Go.Dig Go.Pure

set_option maxRecDepth 100000 in
set_option maxHeartbeats 1000000 in
theorem divMag_lt (A : Option Addr) (n c : Nat) (A' : Option Addr) (n' c' : Nat) (x y : Nat) (w : World) (hx : WM w A n c x) (hy : WM w A' n' c' y) (hlt : x < y) :
    Calls Tryz.prog 54 #[.slice A n c, .slice A' n' c'] w fun e w' => ∃ Q nq cq R nr cr, e = .returned (.tuple #[.slice Q nq cq, .slice R nr cr]) ∧ Hid (WM w' Q nq cq (x / y) ∧ WM w' R nr cr (x % y) ∧ New w w') := by
  have hcm := cmpMag_any A n c A' n' c' x y w hx hy
  rw [cmpI_lt (by omega)] at hcm
  have HC := Lib.hid (And.intro hcm hx)
  clear hcm hx hy
  go_enter Tryz.func54, Tryz.ntmps54
  go_wp2_with fail
  go_step3
  go_wp2_with fail
  refine HC.out.1.mono ?_
  rintro e w1 ⟨rfl, q1, hq1⟩
  have HN : Hid (New w w1) := by rw [hq1]; exact (Chg.refl _ _).drewN q1
  clear hq1
  go_wp2_with fail
  (try rw [Exit.noGoto_ret])
  go_ret2
  exact ⟨_, _, _, _, _, _, rfl, by rw [Nat.div_eq_of_lt hlt]; exact WM.zero _, by rw [Nat.mod_eq_of_lt hlt]; exact HC.out.2.new HN.out, HN.out⟩

set_option maxRecDepth 100000 in
set_option maxHeartbeats 1000000 in
theorem divMag_one (A : Option Addr) (n c : Nat) (A' : Option Addr) (c' : Nat) (x y : Nat) (w : World) (hx : WM w A n c x) (hy : WM w A' 1 c' y) (hn : n ≤ 900000) (hle : y ≤ x) :
    Calls Tryz.prog 54 #[.slice A n c, .slice A' 1 c'] w fun e w' => ∃ Q nq cq R nr cr, e = .returned (.tuple #[.slice Q nq cq, .slice R nr cr]) ∧ Hid (WM w' Q nq cq (x / y) ∧ WM w' R nr cr (x % y) ∧ New w w') := by
  have hcm := cmpMag_any A n c A' 1 c' x y w hx hy
  obtain ⟨lb, hb, hd1, hd2, hNb⟩ := hy
  have hlb : lb.length = 1 := by have := hb.len; rwa [nv_length] at this
  obtain ⟨bd, u, rfl, hu, hcu⟩ := hb.at_ (show 0 < 1 by omega)
  obtain ⟨z, hz, rfl⟩ := nv_at hu
  have hzy : z = y := by
    obtain ⟨d, rfl⟩ := List.length_eq_one_iff.1 hlb
    have := hNb.val
    simp [val_cons, val_nil] at this hz
    omega
  subst hzy
  have hz1 : 1 ≤ z := by
    have := top_pos hNb hlb (by omega)
    rw [show 1 - 1 = 0 by rfl, dg_some hz] at this
    exact this
  have hzb : z < 4294967296 := hNb.digs.at_ hz
  have hcv : decide (cmpI (x : Int) (z : Int) < 0) = false := by
    unfold cmpI
    rw [if_neg (by omega)]
    split <;> decide
  generalize cmpI (x : Int) (z : Int) = cv at *
  have HC := Lib.hid (And.intro hcm hx)
  rw [show bd.add 0 = bd by simp [Addr.add]] at hcu
  clear hcm hx hb hNb hlb hu hz
  go_enter Tryz.func54, Tryz.ntmps54
  go_wp2_with fail
  go_step3
  go_wp2_with fail
  refine HC.out.1.mono ?_
  rintro e w1 ⟨rfl, q1, hq1⟩
  have hn1 : New w w1 := by rw [hq1]; exact (Chg.refl _ _).drewN q1
  have hcu1 := hn1.cell hcu (fun h => h)
  have HN := Lib.hid hn1
  clear hq1 hn1 hcu
  go_wp2_with fail
  refine (divWord_any A n c x z w1 (HC.out.2.new HN.out) (by omega) hz1 hzb).mono ?_
  rintro e w2 ⟨l, g, rfl, H2⟩
  clear hcu1
  obtain ⟨r, hr⟩ : ∃ r, x % z = r := ⟨_, rfl⟩
  rw [hr]
  have hrb : r < 4294967296 := by rw [← hr]; exact Nat.lt_trans (Nat.mod_lt _ (by omega)) hzb
  have HR := Lib.hid hr
  clear hr
  go_wp2_with fail
  refine (trim_wm _ _ _ l w2 H2.out.1 H2.out.2.1 (Nat.le_refl _) (by omega)).mono ?_
  rintro e w3 ⟨T1, rfl, HT1, rfl⟩
  go_wp2_with fail
  refine Calls.new1 ?_
  intro W3 b3 hn3 hz3
  have hr3 : Rd W3 (some ⟨w2.heap.size, 0, none⟩) 1 (nv .u32 [r]) := ⟨rfl, fun _ => ⟨_, rfl, fun j u hu => by
    match j, hu with
    | 0, hu =>
      simp [nv] at hu
      subst hu
      rw [Addr.add_lit]
      exact b3.cell 0 rfl⟩⟩
  refine (trim_wm _ _ _ [r] W3 hr3 (Digs.cons hrb (Digs.nil _)) (Nat.le_refl _) (by omega)).mono ?_
  rintro e w4 ⟨T2, rfl, HT2, rfl⟩
  have HF := Lib.hid hn3
  clear hr3 b3 hn3 hz3
  go_wp2_with fail
  (try rw [Exit.noGoto_ret])
  go_ret2
  refine ⟨_, _, _, _, _, _, rfl, ?_, ?_, ?_⟩
  · have := HT1.out.1.new HF.out
    rwa [H2.out.2.2.1] at this
  · have := HT2.out.1
    rw [show val 4294967296 [r] = r by simp [val_cons, val_nil]] at this
    rwa [← HR.out] at this
  · exact (HN.out.new H2.out.2.2.2.2).new HF.out

theorem divMag_any (A : Option Addr) (n c : Nat) (A' : Option Addr) (n' c' : Nat) (x y : Nat) (w : World) (hx : WM w A n c x) (hy : WM w A' n' c' y) (hn : n ≤ 900000) (hy1 : 1 ≤ y) :
    Calls Tryz.prog 54 #[.slice A n c, .slice A' n' c'] w fun e w' => ∃ Q nq cq R nr cr, e = .returned (.tuple #[.slice Q nq cq, .slice R nr cr]) ∧ Hid (WM w' Q nq cq (x / y) ∧ WM w' R nr cr (x % y) ∧ New w w') := by
  rcases Nat.lt_or_ge x y with h | h
  · exact divMag_lt A n c A' n' c' x y w hx hy h
  · rcases (show n' = 0 ∨ n' = 1 ∨ 2 ≤ n' by omega) with h0 | h0 | h0
    · have := (hy.pos).1 h0; omega
    · subst h0; exact divMag_one A n c A' c' x y w hx hy hn h
    · exact divMag_long A n c A' n' c' x y w hx hy hn h0 h
end Go.Proofs.YtblcaeoeeepajaaGreatDoor
