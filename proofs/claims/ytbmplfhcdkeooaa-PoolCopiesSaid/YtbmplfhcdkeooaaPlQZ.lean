/- Contract of refuterlaw36.result; Done as the laws use it. -/
import Derived.Test.YtbmplfhcdkeooaaPlPZ
import Derived.Test.YtbmplfhcdkeooaaG3
import Derived.Test.YtbmplfhcdkeooaaG2
import Derived.Test.YtbmplfhcdkeooaaG0
import Derived.Test.YtbmplfhcdkeooaaG1
set_option linter.unusedSimpArgs false
set_option linter.unusedVariables false
namespace Go.Proofs.Ytbmplfhcdkeooaa
set_option linter.unusedVariables false
open Go.RowKit Go.Mem Go.Pl Go.Pure

theorem wra_new (w : World) : WrAt (w.alloc (.cells #[.slice none 0 0] 66)) w.heap.size none [] :=
  ⟨none, 0, 0, Blk.new _ _ _, World.ownsRow_nil _ _ _ _, rfl⟩
theorem wra_chg {w w' : World} {g : Nat} {bo : Option Nat} {l : List UInt8} {S : Nat → Prop} (h : WrAt w g bo l) (hc : Chg S w w') (hg : ¬ S g) (hb : ∀ k, bo = some k → ¬ S k) : WrAt w' g bo l := by
  obtain ⟨A, n, c, h1, h2, h3⟩ := h
  exact ⟨A, n, c, h1.chg hc hg, own_chg h2 hc (fun k hk => hb k (by rw [← h3, hk])), h3⟩
/-- What a task stands for. -/
def resN (l : List UInt8) : Nat := (bytesI [114, 101, 115, 117, 108, 116] l).toNat
def resB (l : List UInt8) : List UInt8 := uvar (resN l)
theorem resN_eq (l : List UInt8) : bytesI [114, 101, 115, 117, 108, 116] l = (resN l : Int) := (Int.toNat_of_nonneg (sumI_range _ _).1).symm
theorem resN_lt (l : List UInt8) : resN l < 18446744073709551616 := by
  have h := sumI_range [114, 101, 115, 117, 108, 116] ((wds l).map (fun n : Nat => Go.RowKit.wrap64 (n : Int)) ++ [(l.length : Int)])
  unfold resN bytesI
  omega
theorem resN_str (l : List UInt8) : bytesI (ByteArray.mk #[114, 101, 115, 117, 108, 116]).data.toList l = (resN l : Int) := resN_eq l
theorem resB_len (l : List UInt8) : (resB l).length ≤ 10 := uvar_len (resN_lt l)
set_option maxHeartbeats 1000000 in
set_option maxRecDepth 100000 in
theorem result_any (A : Option Addr) (n c : Nat) (l : List UInt8) (w : World) (hr : Rd w A n (bs l)) (hn : n ≤ 1000000000) (hA : ∀ k, Go.Mem.blk A = some k → k < w.heap.size) :
    Calls Try.prog 33 #[.slice A n c] w fun e w' => ∃ A' c', e = .returned (.slice A' (resB l).length c') ∧ w'.ownsRow w.heap.size 5 1 (.slice A' (resB l).length c') (resB l).length (bs (resB l)) ∧ New w w' := by
  have hw1 := wra_new w
  have HW1 := Lib.hid hw1
  have hnw : New w (w.alloc (.cells #[.slice none 0 0] 66)) := (Chg.refl _ _).alloc _
  have HN1 := Lib.hid hnw
  have HR := Lib.hid hr
  have HA := Lib.hid hA
  have hstr := resN_str l
  have hlt := resN_lt l
  have hlen := resB_len l
  have hdef : uvar (resN l) = resB l := rfl
  generalize resB l = L at *
  generalize resN l = N at *
  generalize hI : bytesI (ByteArray.mk #[114, 101, 115, 117, 108, 116]).data.toList l = I at *
  subst hstr
  have HI := Lib.hid hI
  have HDEF := Lib.hid hdef
  clear hw1 hnw hr hA hdef hI
  go_enter Try.func33, Try.ntmps33
  go_wp2_with fail
  refine (hbytes_any ⟨#[114, 101, 115, 117, 108, 116]⟩ (by decide) A n c l _ (HR.out.new HN1.out) hn (fun k hk => by have := HA.out k hk; simp; omega)).mono ?_
  rintro e w2 ⟨rfl, hn2⟩
  have hw2 := wra_chg HW1.out hn2 (fun h => h) (fun _ _ h => h)
  have HW2 := Lib.hid (And.intro hw2 (HN1.out.new hn2))
  clear hw2 hn2
  rw [HI.out]
  go_wp2_with fail
  refine (wUint_any w.heap.size none [] N w2 hlt HW2.out.1 (by simp)).mono ?_
  rintro e w3 ⟨rfl, b3, hw3, hc3, ha3⟩
  have hn3 : New w w3 := HW2.out.2.trans hc3 (fun k hk h => by
    rcases h with h | h
    · omega
    · cases h)
  rw [List.nil_append, HDEF.out] at hw3
  have HW3 := Lib.hid (And.intro hw3 hn3)
  clear hw3 hc3 ha3 hn3
  go_wp2_with fail
  refine (wDone_any w.heap.size b3 L w3 HW3.out.1 (by omega)).mono ?_
  rintro e w4 ⟨A4, c4, rfl, ho4, hn4⟩
  have HO4 := Lib.hid (And.intro ho4 hn4)
  clear ho4 hn4
  go_wp2_with fail
  go_ret
  exact ⟨A4, c4, rfl, own_base HO4.out.1 HW3.out.2.size, HW3.out.2.new HO4.out.2⟩
theorem pnDone {w w1 : World} {g : Nat} {s : S} {O : Nat → Prop} (h : PN w w1 O g s) : Calls Try.prog 28 #[.pointer (some ⟨g, 0, none⟩)] w1 fun e w' => ∃ A c, e = .returned (.slice A (dones s).length c) ∧ RepsV w' w1.heap.size (.slice A (dones s).length c) (dones s) ∧ PN w w' O g s ∧ New w1 w' := by
  have h9 := h
  obtain ⟨h1, h0, m, dv, V, T, rfl, h2, h4⟩ := h
  refine (plDone_any g m dv V T s w1 h2).mono ?_
  rintro e w' ⟨v, rfl, h5, h6⟩
  obtain ⟨css, q1, q2⟩ := h5
  obtain ⟨A, c, rfl, _⟩ := ownN_shape q1
  exact ⟨A, c, rfl, ⟨css, q1, q2⟩, h9.new h6, h6⟩
end Go.Proofs.Ytbmplfhcdkeooaa
