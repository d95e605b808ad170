/- The parts Nl, PureDetect, PureDk1, PureDk3, PureNk, Nt of the proof, in one text. -/
import Derived.Test.YtblcaeoeeepajaaGreatDoorB4
set_option linter.unusedSimpArgs false
set_option linter.unusedVariables false

namespace Go.Mem
set_option linter.unusedVariables false
open Go.RowKit
theorem rd_lit {w : World} {t : TypeId} (cs : List Value) : Rd (w.alloc (.cells cs.toArray t)) (some ⟨w.heap.size, 0, none⟩) cs.length cs :=
  ⟨rfl, fun _ => ⟨_, rfl, fun j u hu => by
    rw [Addr.add_lit, Nat.zero_add]
    exact (Blk.new w t cs.toArray).cell j (by simpa using hu)⟩⟩
end Go.Mem
namespace Go.Dk
def lv1 : S := (append (sync (append (Dk.new 100) 3 [1, 2]).1).1 3 [255]).1
def lv2 : S := crash lv1 [] 7
theorem lv_r1 : read (crash lv1 [1] 7) 3 = ([1, 2, 254], 0) := by kernel_rfl
theorem lv_r2 : read lv2 3 = ([1, 2], 0) := by kernel_rfl
theorem lv_a3 : (append (arm lv2 0) 1 []).2 = 24 := by kernel_rfl
theorem lv_r4 : read (append (arm lv2 0) 1 []).1 3 = ([], 24) := by kernel_rfl
end Go.Dk
namespace Go.Proofs.YtblcaeoeeepajaaGreatDoor
set_option linter.unusedVariables false
open Go.RowKit Go.Mem Go.Dk Go.Pure
set_option maxHeartbeats 4000000 in
set_option maxRecDepth 100000 in
theorem lives6_any (w : World) : Calls Tryz.prog 24 #[] w fun e w' => e = .returned (.bool true) ∧ New w w' := by
  go_enter Tryz.func24, Tryz.ntmps24
  go_wp2_with fail
  refine (JD.start (w := w) 100 (by omega) (Chg.refl _ w)).mono ?_
  rintro e w1 ⟨g, U1, rfl, hj1, _⟩
  have HJ1 := Lib.hid hj1
  clear hj1
  go_wp2_with fail
  refine ((HJ1.out.new ((Chg.refl _ w1).alloc _)).append 3 (some ⟨w1.heap.size, 0, none⟩) 2 2 [1, 2] (rd_lit (bs [1, 2])) (by omega)).mono ?_
  rintro e w2 ⟨rfl, U2, hj2, hs2⟩
  have HJ2 := Lib.hid hj2
  clear hj2 hs2 HJ1
  go_wp2_with fail
  refine HJ2.out.sync.mono ?_
  rintro e w3 ⟨rfl, U3, hj3, hs3⟩
  have HJ3 := Lib.hid hj3
  clear hj3 hs3 HJ2
  go_wp2_with fail
  refine ((HJ3.out.new ((Chg.refl _ w3).alloc _)).append 3 (some ⟨w3.heap.size, 0, none⟩) 1 1 [255] (rd_lit (bs [255])) (by omega)).mono ?_
  rintro e w4 ⟨rfl, U4, hj4, hs4⟩
  have HJ4 := Lib.hid (show JD U4 w g lv1 w4 from hj4)
  clear hj4 hs4 HJ3
  go_wp2_with fail
  refine HJ4.out.copy.mono ?_
  rintro e w5 ⟨g2, C5, rfl, hc5, hn5, ho5⟩
  have HC5 := Lib.hid hc5
  have HJ5 := Lib.hid (HJ4.out.new hn5)
  have HD5 := Lib.hid (show ∀ k, U4 k → ¬ C5 k from fun k hk hc => by have := (HJ4.out.lt hk).1; have := ho5 k hc; omega)
  clear hc5 hn5 ho5 HJ4
  go_wp2_with fail
  obtain ⟨w5a, hw5a⟩ : ∃ x, w5.alloc (.cells #[.int .i64 1] 3) = x := ⟨_, rfl⟩
  have hn5a : New w5 w5a := by rw [← hw5a]; exact (Chg.refl _ w5).alloc _
  have hrk : Rd w5a (some ⟨w5.heap.size, 0, none⟩) 1 (is [1]) := by rw [← hw5a]; exact Rd.one
  have hz5 : w5a.heap.size = w5.heap.size + 1 := by rw [← hw5a, World.size_alloc]
  rw [hw5a]
  refine ((HJ5.out.new hn5a).crash (some ⟨w5.heap.size, 0, none⟩) 1 1 [1] hrk (fun k hk => by
    have hk : w5.heap.size = k := by simpa [blk] using hk
    exact ⟨fun hu => by have := (HJ5.out.lt hu).1; omega, by omega⟩) (by omega) (fun z hz => by rcases List.mem_singleton.1 hz with rfl; omega) 7 (by omega)).mono ?_
  rintro e w6 ⟨rfl, U6, hj6, hs6⟩
  have HJ6 := Lib.hid hj6
  have HC6 := Lib.hid ((HC5.out.new hn5a).chg hs6.chg (fun k hk => (HJ5.out.lt hk).2) (fun k hk hu => HD5.out k hu hk))
  have HD6 := Lib.hid (show ∀ k, U6 k → ¬ C5 k from fun k hk hc => by
    rcases hs6.own k hk with h | h
    · exact HD5.out k h hc
    · have := (HC5.out.lt hc).1; omega)
  clear hj6 hs6 hw5a hn5a hrk hz5 HJ5 HC5 HD5
  go_wp2_with fail
  refine (HC6.out.crash none 0 0 [] (Rd.nil _ _) (fun k hk => by cases hk) (by omega) (fun z hz => by simp at hz) 7 (by omega)).mono ?_
  rintro e w7 ⟨rfl, C7, hc7, hs7⟩
  have HC7 := Lib.hid (show JD C7 w g2 lv2 w7 from hc7)
  have HJ7 := Lib.hid (HJ6.out.chg hs7.chg (fun k hk => (HC6.out.lt hk).2) (fun k hk hu => HD6.out k hk hu))
  clear hc7 hs7 HJ6 HC6 HD6
  go_wp2_with fail
  refine (HJ7.out.read 3).mono ?_
  rw [lv_r1]
  rintro e w8 ⟨A8, c8, rfl, hr8, hn8, hb8⟩
  have HR8 := Lib.hid (And.intro hr8 (show ∀ k, blk A8 = some k → ¬ C7 k ∧ k < w8.heap.size from fun k hk => ⟨fun hc => by have := (HC7.out.lt hc).1; have := hb8 k hk; omega, (hb8 k hk).2⟩))
  have HC8 := Lib.hid (HC7.out.new hn8)
  clear hr8 hn8 hb8 HC7 HJ7
  go_wp2_with fail
  refine (HC8.out.read 3).mono ?_
  rw [lv_r2]
  rintro e w9 ⟨A9, c9, rfl, hr9, hn9, hb9⟩
  have HR9 := Lib.hid (And.intro hr9 (show ∀ k, blk A9 = some k → ¬ C7 k ∧ k < w9.heap.size from fun k hk => ⟨fun hc => by have := (HC8.out.lt hc).1; have := hb9 k hk; omega, (hb9 k hk).2⟩))
  have HR89 := Lib.hid (And.intro (HR8.out.1.new hn9) (show ∀ k, blk A8 = some k → ¬ C7 k ∧ k < w9.heap.size from fun k hk => ⟨(HR8.out.2 k hk).1, Nat.lt_of_lt_of_le (HR8.out.2 k hk).2 hn9.size⟩))
  have HC9 := Lib.hid (HC8.out.new hn9)
  clear hr9 hn9 hb9 HC8 HR8
  go_wp2_with fail
  refine (HC9.out.arm 0 (by omega)).mono ?_
  rintro e wa ⟨rfl, Ca, hca, hsa⟩
  have HCa := Lib.hid hca
  have HRa := Lib.hid (And.intro (hsa.rd HR89.out.1 HR89.out.2) (hsa.rd HR9.out.1 HR9.out.2))
  clear hca hsa HC9 HR89 HR9
  go_wp2_with fail
  refine (HCa.out.append 1 none 0 0 [] (Rd.nil _ _) (by omega)).mono ?_
  rw [lv_a3]
  rintro e wb ⟨rfl, Cb, hcb, hsb⟩
  have HCb := Lib.hid hcb
  have HRb := Lib.hid (And.intro (hsb.rd HRa.out.1.1 HRa.out.1.2) (hsb.rd HRa.out.2.1 HRa.out.2.2))
  clear hcb hsb HCa HRa
  go_wp2_with fail
  refine (HCb.out.read 3).mono ?_
  rw [lv_r4]
  rintro e wc ⟨Ac, cc, rfl, _, hnc, _⟩
  have HRc := Lib.hid (And.intro (HRb.out.1.1.new hnc) (HRb.out.2.1.new hnc))
  have HNc := Lib.hid (HCb.out.new hnc).was
  clear hnc HCb HRb
  go_wp2_with fail
  refine (sameBytes_any A8 (some ⟨wc.heap.size, 0, none⟩) 3 3 c8 3 [1, 2, 254] [1, 2, 254] _ (HRc.out.1.new ((Chg.refl _ wc).alloc _)) (rd_lit (bs [1, 2, 254])) (by omega) (by omega)).mono ?_
  rintro e wd ⟨rfl, hnd⟩
  have HND := Lib.hid (((Chg.refl (fun _ => False) wc).alloc _).trans hnd (fun _ _ h => h) : New wc wd)
  clear hnd
  go_wp2_with fail
  refine (sameBytes_any A9 (some ⟨wd.heap.size, 0, none⟩) 2 2 c9 2 [1, 2] [1, 2] _ ((HRc.out.2.new HND.out).new ((Chg.refl _ wd).alloc _)) (rd_lit (bs [1, 2])) (by omega) (by omega)).mono ?_
  rintro e we ⟨rfl, hne⟩
  have HNE := Lib.hid ((HNc.out.trans HND.out (fun _ _ h => h)).trans (((Chg.refl (fun _ => False) wd).alloc _).trans hne (fun _ _ h => h)) (fun _ _ h => h) : New w we)
  clear hne
  go_wp2_with fail
  go_ret
  exact ⟨rfl, HNE.out⟩
end Go.Proofs.YtblcaeoeeepajaaGreatDoor

namespace Go.Pure
open Go.RowKit

end Go.Pure

namespace Go.Dk
set_option linter.unusedVariables false

/-- Only the file i has bytes; the disk is on and no failure is planned. -/
structure One (s : S) (r i : Nat) (l : List UInt8) (d : Nat) : Prop where
  room : s.room = r
  lt : i < 64
  other : ∀ j, j ≠ i → s.f j = []
  file : s.f i = l
  firm : s.firm i = d
  le : d ≤ l.length
  on : s.off = false
  plan : s.plan = -1
theorem usedN_at {f : Nat → List UInt8} {i : Nat} (h : ∀ j, j ≠ i → f j = []) : ∀ n, i < n → usedN f n = (f i).length
  | 0, hi => by omega
  | n + 1, hi => by
    unfold usedN
    by_cases e : i = n
    · subst e
      have : ∀ m, m ≤ i → usedN f m = 0 := by
        intro m
        induction m with
        | zero => intro _; rfl
        | succ m ih => intro hm; unfold usedN; rw [ih (by omega), h m (by omega)]; rfl
      rw [this i (Nat.le_refl _), Nat.zero_add]
    · rw [usedN_at h n (by omega), h n (fun e2 => e e2.symm)]
      simp
section
variable {s : S} {r i d : Nat} {l : List UInt8}
theorem One.usd (h : One s r i l d) : used s = l.length := by
  unfold Dk.used
  rw [usedN_at h.other 64 h.lt, h.file]
theorem One.new {r i : Nat} (hi : i < 64) : One (Dk.new r) r i [] 0 := ⟨rfl, hi, fun j _ => rfl, rfl, rfl, Nat.le_refl _, rfl, rfl⟩
theorem One.putn (h : One s r i l d) {l' : List UInt8} {d' : Nat} (hd : d' ≤ l'.length) : One (put s i l' d') r i l' d' :=
  ⟨h.room, h.lt, fun j hj => by show upd s.f i l' j = []; rw [upd_other _ _ hj]; exact h.other j hj, by show upd s.f i l' i = _; rw [upd_same], by show upd s.firm i d' i = _; rw [upd_same], hd, h.on, h.plan⟩
theorem One.app (h : One s r i l d) {b : List UInt8} (hb : l.length + b.length ≤ r) : ∃ s', append s (i : Int) b = (s', 0) ∧ One s' r i (l ++ b) d := by
  refine ⟨put s i (l ++ b) d, ?_, h.putn (by rw [List.length_append]; have := h.le; omega)⟩
  have hi := h.lt
  unfold append
  rw [if_neg (by omega), if_neg (by rw [h.on]; simp), if_neg (by rw [h.usd, h.room]; omega)]
  have ht : (i : Int).toNat = i := by omega
  rw [ht, h.file, h.firm]
  have hp : pstep (put s i (l ++ b) d) = (put s i (l ++ b) d, false) := if_pos (by show s.plan < 0; rw [h.plan]; omega)
  rw [hp]
  rfl
theorem One.rd (h : One s r i l d) : read s (i : Int) = (l, 0) := by
  have hi := h.lt
  unfold read
  rw [if_neg (by omega), if_neg (by rw [h.on]; simp), show (i : Int).toNat = i by omega, h.file]
/-- A file behind a crash that keeps m loose bytes. -/
def behind (l : List UInt8) (d m : Nat) (flip : Int) : List UInt8 :=
  if 0 ≤ flip ∧ 0 < m then turn (l.take (d + m)) (d + flip.toNat % (8 * m) / 8) (flip.toNat % (8 * m) % 8) else l.take (d + m)
end
end Go.Dk
namespace Go.Pure
end Go.Pure

namespace Go.Dk
theorem turn_take3 {l : List UInt8} {p k d : Nat} (h : d ≤ p) : (turn l p k).take d = l.take d := by
  apply List.ext_getElem?
  intro j
  unfold turn
  rw [List.getElem?_take, List.getElem?_take]
  split
  · rw [List.getElem?_modify]
    have hne : ¬ p = j := by omega
    simp only [hne, if_false]
    cases l[j]? <;> rfl
  · rfl
theorem invert_take (s : S) : ∀ (r : List Nat) (b i : Nat), (invert s r b i).take (s.firm i) = (s.f i).take (s.firm i)
  | [], _, _ => rfl
  | j :: r, b, i => by
    unfold invert
    split
    · unfold upd
      split
      · rename_i e
        subst e
        exact turn_take3 (by omega)
      · rfl
    · exact invert_take s r _ i
theorem turned_len (s : S) (keep : List Int) (flip : Int) (i : Nat) : ((turned s keep flip).f i).length = ((cut s keep).f i).length := by
  unfold turned
  split
  · exact invert_len _ _ _ _
  · rfl
theorem turned_take (s : S) (keep : List Int) (flip : Int) (i : Nat) : ((turned s keep flip).f i).take (s.firm i) = ((cut s keep).f i).take (s.firm i) := by
  unfold turned
  split
  · exact invert_take (cut s keep) _ _ i
  · rfl
theorem cut_take (s : S) (keep : List Int) (i : Nat) : ((cut s keep).f i).take (s.firm i) = (s.f i).take (s.firm i) := by
  show (cutTo s keep (files s).length i).take _ = _
  unfold cutTo
  split
  · rw [List.take_take]; congr 1; omega
  · rfl
theorem cut_len (s : S) (keep : List Int) (i : Nat) : ((cut s keep).f i).length ≤ (s.f i).length := by
  show (cutTo s keep (files s).length i).length ≤ _
  unfold cutTo
  split
  · rw [List.length_take]; omega
  · exact Nat.le_refl _
/-- The durable bytes survive. -/
theorem crash_take (s : S) (keep : List Int) (flip : Int) (i : Nat) : ((crash s keep flip).f i).take (s.firm i) = (s.f i).take (s.firm i) := (turned_take s keep flip i).trans (cut_take s keep i)
theorem crash_len (s : S) (keep : List Int) (flip : Int) (i : Nat) : ((crash s keep flip).f i).length ≤ (s.f i).length := by
  show ((turned s keep flip).f i).length ≤ _
  rw [turned_len]
  exact cut_len s keep i
/-- Behind a Sync in the state s0, only Appends since: on, no plan, the bytes of s0 durable and at the beginning. -/
structure Since (s0 s : S) : Prop where
  on : s.off = false
  plan : s.plan < 0
  firm : ∀ i, s.firm i = (s0.f i).length
  pre : ∀ i, (s.f i).take (s0.f i).length = s0.f i
  len : ∀ i, (s0.f i).length ≤ (s.f i).length
theorem pstep_none {s : S} (h : s.plan < 0) : pstep s = (s, false) := if_pos h
theorem Since.start {s0 s : S} (ho : s.off = false) (hp : s.plan < 0) (hf : s.f = s0.f) : Since s0 (sync s).1 ∧ (sync s).2 = 0 := by
  have h := sync_ok ho (by rw [pstep_none hp])
  rw [h, pstep_none hp]
  refine ⟨⟨ho, hp, fun i => ?_, fun i => ?_, fun i => ?_⟩, rfl⟩
  · show (s.f i).length = _
    rw [hf]
  · show (s.f i).take _ = _
    rw [hf, List.take_of_length_le (Nat.le_refl _)]
  · show _ ≤ (s.f i).length
    rw [hf]
    exact Nat.le_refl _
theorem Since.app {s0 s : S} (h : Since s0 s) (file : Int) (l : List UInt8) : Since s0 (append s file l).1 := by
  unfold append
  split
  · exact h
  · split
    · exact h
    · split
      · exact h
      · rename_i h1 _ _
        have hp : pstep (put s file.toNat (s.f file.toNat ++ l) (s.firm file.toNat)) = (put s file.toNat (s.f file.toNat ++ l) (s.firm file.toNat), false) := pstep_none h.plan
        rw [hp]
        refine ⟨h.on, h.plan, fun i => ?_, fun i => ?_, fun i => ?_⟩
        · show upd s.firm file.toNat (s.firm file.toNat) i = _
          rw [upd_self]
          exact h.firm i
        · show (upd s.f file.toNat (s.f file.toNat ++ l) i).take _ = _
          unfold upd
          split
          · rename_i e
            subst e
            rw [List.take_append_of_le_length (h.len _)]
            exact h.pre _
          · exact h.pre i
        · show _ ≤ (upd s.f file.toNat (s.f file.toNat ++ l) i).length
          unfold upd
          split
          · rename_i e
            subst e
            rw [List.length_append]
            have := h.len file.toNat
            omega
          · exact h.len i
theorem Since.crash {s0 s : S} (h : Since s0 s) (keep : List Int) (flip : Int) (i : Nat) : ((Dk.crash s keep flip).f i).take (s0.f i).length = s0.f i ∧ (s0.f i).length ≤ ((Dk.crash s keep flip).f i).length ∧ ((Dk.crash s keep flip).f i).length ≤ (s.f i).length := by
  have h1 := crash_take s keep flip i
  rw [h.firm i, h.pre i] at h1
  refine ⟨h1, ?_, crash_len s keep flip i⟩
  have h2 := congrArg List.length h1
  rw [List.length_take] at h2
  omega
theorem read_at {s : S} {i : Nat} (hi : i < 64) (ho : s.off = false) : read s (i : Int) = (s.f i, 0) := by
  unfold Dk.read
  rw [if_neg (by omega), ho]
  rfl
end Go.Dk

namespace Go.Dk
set_option linter.unusedVariables false

theorem app_f (s : S) (file : Int) (l : List UInt8) : (append s file l).1.f = s.f ∨ (append s file l).1.f = upd s.f file.toNat (s.f file.toNat ++ l) := by
  unfold append
  split
  · exact .inl rfl
  · split
    · exact .inl rfl
    · split
      · exact .inl rfl
      · right
        dsimp only
        rw [(step_f _).1]
        rfl
theorem app_other (s : S) (file : Int) (l : List UInt8) {j : Nat} (h : j ≠ file.toNat) : (append s file l).1.f j = s.f j := by
  rcases app_f s file l with e | e
  · rw [e]
  · rw [e, upd_other _ _ h]
theorem app_len (s : S) (file : Int) (l : List UInt8) (j : Nat) : ((append s file l).1.f j).length ≤ (s.f j).length + l.length := by
  rcases app_f s file l with e | e
  · rw [e]; omega
  · rw [e]
    unfold upd
    split
    · rename_i h; subst h; simp
    · omega
/-- The files from 5 on, before n, hold L. -/
structure Fil (L : List UInt8) (n : Nat) (s : S) : Prop where
  room : s.room = 20000
  on : s.off = false
  plan : s.plan = -1
  f : ∀ j, s.f j = if 5 ≤ j ∧ j < n then L else []
  usd : used s = (n - 5) * L.length
theorem Fil.start (L : List UInt8) : Fil L 5 (Dk.new 20000) := ⟨rfl, rfl, rfl, fun j => by rw [if_neg (by omega)]; rfl, by rw [used_new]; simp⟩
theorem app_ok {s : S} (ho : s.off = false) (hp : s.plan = -1) {i : Nat} (hi : i < 64) {l : List UInt8} (hu : used s + l.length ≤ s.room) : append s (i : Int) l = (put s i (s.f i ++ l) (s.firm i), 0) := by
  unfold append
  rw [if_neg (by omega), if_neg (by rw [ho]; simp), if_neg (by omega)]
  have ht : (i : Int).toNat = i := by omega
  rw [ht]
  have e : pstep (put s i (s.f i ++ l) (s.firm i)) = (put s i (s.f i ++ l) (s.firm i), false) := if_pos (by show s.plan < 0; rw [hp]; omega)
  rw [e]
  rfl
theorem Fil.step {L : List UInt8} {n : Nat} {s : S} (h : Fil L n s) (h5 : 5 ≤ n) (h6 : n ≤ 6) (hL : L.length ≤ 5000) (k : Nat) (hk : k ≤ L.length) : Fil L (n + 1) (append (append s (n : Int) (L.take k)).1 (n : Int) (L.drop k)).1 := by
  have hn : s.f n = [] := by rw [h.f, if_neg (by omega)]
  have hu : used s ≤ 5000 := by
    rw [h.usd]
    rcases (show n = 5 ∨ n = 6 by omega) with rfl | rfl
    · simp
    · simp; exact hL
  have hlt : (L.take k).length = k := by rw [List.length_take]; omega
  have hld : (L.drop k).length = L.length - k := by rw [List.length_drop]
  rw [app_ok h.on h.plan (by omega) (by rw [h.room, hlt]; omega)]
  dsimp only
  rw [hn, List.nil_append]
  have u1 : used (put s n (L.take k) (s.firm n)) = used s + k := by
    have := put_used (s := s) (i := n) (by omega) (L.take k) (s.firm n)
    rw [hn, hlt] at this
    simpa using this
  have f1 : (put s n (L.take k) (s.firm n)).f n = L.take k := upd_same _ _ _
  rw [app_ok (s := put s n (L.take k) (s.firm n)) h.on h.plan (by omega) (by rw [u1, hld]; show used s + k + (L.length - k) ≤ s.room; rw [h.room]; omega)]
  dsimp only
  rw [f1, List.take_append_drop]
  refine ⟨h.room, h.on, h.plan, fun j => ?_, ?_⟩
  · show upd (upd s.f n (L.take k)) n L j = _
    rw [upd_upd]
    unfold upd
    by_cases e : j = n
    · rw [if_pos e, if_pos (by omega)]
    · rw [if_neg e, h.f]
      by_cases e2 : 5 ≤ j ∧ j < n
      · rw [if_pos e2, if_pos (by omega)]
      · rw [if_neg e2, if_neg (by omega)]
  · have := put_used (s := put s n (L.take k) (s.firm n)) (i := n) (by omega) L ((put s n (L.take k) (s.firm n)).firm n)
    rw [u1, f1, hlt, h.usd] at this
    have e : n + 1 - 5 = (n - 5) + 1 := by omega
    rw [e, Nat.succ_mul]
    omega
theorem Fil.fin {L : List UInt8} {s : S} (h : Fil L 7 s) (keep : List Int) (flip : Int) : read (crash (append (append (sync s).1 6 [9, 9, 9]).1 8 [1]).1 keep flip) 5 = (L, 0) ∧ ∃ t : List UInt8, t.length ≤ 3 ∧ read (crash (append (append (sync s).1 6 [9, 9, 9]).1 8 [1]).1 keep flip) 6 = (L ++ t, 0) := by
  have hs := Since.start (s0 := s) h.on (by rw [h.plan]; omega) rfl
  have h1 := (hs.1.app 6 [9, 9, 9]).app 8 [1]
  have hy : (sync s).1.f = s.f := by
    rw [sync_ok h.on (by rw [pstep_none (by rw [h.plan]; omega)]), pstep_none (by rw [h.plan]; omega)]
    rfl
  have g5 := h1.crash keep flip 5
  have g6 := h1.crash keep flip 6
  have l5 : ((append (append (sync s).1 6 [9, 9, 9]).1 8 [1]).1.f 5).length = L.length := by
    rw [app_other _ _ _ (by decide), app_other _ _ _ (by decide), hy, h.f, if_pos (by omega)]
  have l6 : ((append (append (sync s).1 6 [9, 9, 9]).1 8 [1]).1.f 6).length ≤ L.length + 3 := by
    rw [app_other _ _ _ (by decide)]
    refine Nat.le_trans (app_len _ _ _ _) ?_
    rw [hy, h.f, if_pos (by omega)]
    simp
  rw [h.f 5, if_pos (by omega), l5] at g5
  rw [h.f 6, if_pos (by omega)] at g6
  obtain ⟨z, hz⟩ : ∃ z, crash (append (append (sync s).1 6 [9, 9, 9]).1 8 [1]).1 keep flip = z := ⟨_, rfl⟩
  have ho : z.off = false := by rw [← hz]; rfl
  rw [hz] at g5 g6 ⊢
  refine ⟨?_, (z.f 6).drop L.length, ?_, ?_⟩
  · rw [show read z 5 = (z.f 5, 0) from read_at (i := 5) (by omega) ho]
    obtain ⟨q1, q2, q3⟩ := g5
    rw [List.take_of_length_le q3] at q1
    rw [q1]
  · rw [List.length_drop]
    have := g6.2.2
    omega
  · rw [show read z 6 = (z.f 6, 0) from read_at (i := 6) (by omega) ho]
    congr 1
    conv => lhs; rw [← List.take_append_drop L.length (z.f 6)]
    rw [g6.1]
end Go.Dk

namespace Go.Proofs.YtblcaeoeeepajaaGreatDoor
set_option linter.unusedVariables false
open Go.RowKit Go.Mem Go.Dk Go.Pure Go.Dig

/-- An integer in a box. -/
structure Bi where
  g : Nat
  s : Bool
  A : Option Addr
  n : Nat
  c : Nat
  z : Int
def Bi.v (b : Bi) : Value := .agg #[.bool b.s, .slice b.A b.n b.c]
def Bi.sat (b : Bi) (w : World) : Prop := Blk w b.g 29 #[.bool b.s, .slice b.A b.n b.c] ∧ WI w b.v b.z
/-- The disk at g (s), made after w, beside integers in boxes. -/
structure DkN (U : Nat → Prop) (w : World) (g : Nat) (s : S) (bs : List Bi) (wl : World) : Prop where
  jd : JD U w g s wl
  bx : ∀ b ∈ bs, b.sat wl ∧ ¬ U b.g
section
variable {U U' Y : Nat → Prop} {w w1 w2 : World} {g : Nat} {s s' : S} {l : List Bi} {b : Bi}
theorem Bi.new (h : b.sat w1) (hn : New w1 w2) : b.sat w2 := ⟨h.1.chg hn (fun h => h), h.2.new hn⟩
theorem Bi.keep (h : b.sat w1) (hc : Chg Y w1 w2) (h1 : ¬ Y b.g) (h2 : ∀ k, Y k → No32 w1 k) : b.sat w2 := ⟨h.1.chg hc h1, WI.keep h.2 hc h2⟩
theorem DkN.new (h : DkN U w g s l w1) (hn : New w1 w2) : DkN U w g s l w2 := ⟨h.jd.new hn, fun b hb => ⟨Bi.new (h.bx b hb).1 hn, (h.bx b hb).2⟩⟩
theorem DkN.far (h : DkN U w g s l w1) (hc : Chg Y w1 w2) (hw : ∀ k, Y k → w.heap.size ≤ k) (hU : ∀ k, U k → ¬ Y k) (hb : ∀ b ∈ l, ¬ Y b.g) (hn : ∀ k, Y k → No32 w1 k) : DkN U w g s l w2 :=
  ⟨h.jd.chg hc hw hU, fun b hm => ⟨Bi.keep (h.bx b hm).1 hc (hb b hm) hn, (h.bx b hm).2⟩⟩
theorem DkN.step (h : DkN U w g s l w1) (hj : JD U' w g s' w2) (hs : DStep U U' w1 w2) : DkN U' w g s' l w2 :=
  ⟨hj, fun b hm => ⟨Bi.keep (h.bx b hm).1 hs.chg (h.bx b hm).2 h.jd.no32, fun hu => by
    rcases hs.own b.g hu with e | e
    · exact (h.bx b hm).2 e
    · have := (h.bx b hm).1.1.lt; omega⟩⟩
/-- One more. -/
theorem DkN.add (h : DkN U w g s l w1) (hb : b.sat w1) (hu : ¬ U b.g) : DkN U w g s (b :: l) w1 := ⟨h.jd, fun x hx => by
  rcases List.mem_cons.1 hx with rfl | hx
  · exact ⟨hb, hu⟩
  · exact h.bx x hx⟩
theorem DkN.c0 (h : DkN U w g s l w1) (hb : b ∈ l) : w1.cell? ⟨b.g, 0, none⟩ = some (.bool b.s) := (h.bx b hb).1.1.cell 0 rfl
theorem DkN.c1 (h : DkN U w g s l w1) (hb : b ∈ l) : w1.cell? ⟨b.g, 1, none⟩ = some (.slice b.A b.n b.c) := (h.bx b hb).1.1.cell 1 rfl
theorem DkN.lt (h : DkN U w g s l w1) (hb : b ∈ l) : b.g < w1.heap.size := (h.bx b hb).1.1.lt
theorem DkN.wi (h : DkN U w g s l w1) (hb : b ∈ l) : WI w1 b.v b.z := (h.bx b hb).1.2
/-- A Writer's step. -/
theorem DkN.wr {gw : Nat} {bo : Option Nat} {t : List UInt8} (h : DkN U w g s l w1) (hw : WrV w1 gw bo t) (hc : Chg (fun k => k = gw ∨ bo = some k) w1 w2) (B : Nat) (h1 : B ≤ gw) (h2 : ∀ k, bo = some k → B ≤ k) (h3 : w.heap.size ≤ B) (hU : ∀ k, U k → k < B) (hb : ∀ b ∈ l, b.g < B) : DkN U w g s l w2 :=
  h.far hc (fun k hk => by
    rcases hk with e | e
    · omega
    · have := h2 k e; omega) (fun k hk e => by
    have := hU k hk
    rcases e with e | e
    · omega
    · have := h2 k e; omega) (fun b hm e => by
    have := hb b hm
    rcases e with e | e
    · omega
    · have := h2 _ e; omega) hw.no32
end
theorem WrV.new {w w' : World} {g : Nat} {bo : Option Nat} {l : List UInt8} (h : WrV w g bo l) (hn : New w w') : WrV w' g bo l := by
  obtain ⟨A, n, c, h1, h2, h3⟩ := h
  exact ⟨A, n, c, h1.chg hn (fun h => h), h2.new hn, h3⟩
theorem WrV.made (w : World) : WrV (w.alloc (.cells #[.slice none 0 0] 35)) w.heap.size none [] := ⟨none, 0, 0, Blk.new _ _ _, RowV.nil _ _ _, rfl⟩
/-- What is known of the two boxes. -/
structure Two (ga : Nat) (sa : Bool) (Aa : Option Addr) (na ca gp : Nat) (sp : Bool) (Ap : Option Addr) (np cp : Nat) (n P : Int) (W : World) : Prop where
  a0 : W.cell? ⟨ga, 0, none⟩ = some (.bool sa)
  a1 : W.cell? ⟨ga, 1, none⟩ = some (.slice Aa na ca)
  p0 : W.cell? ⟨gp, 0, none⟩ = some (.bool sp)
  p1 : W.cell? ⟨gp, 1, none⟩ = some (.slice Ap np cp)
  al : ga < W.heap.size
  pl : gp < W.heap.size
  wa : WI W (.agg #[.bool sa, .slice Aa na ca]) n
  wp : WI W (.agg #[.bool sp, .slice Ap np cp]) P
theorem DkN.two {U : Nat → Prop} {w w1 : World} {g : Nat} {s : S} {ga : Nat} {sa : Bool} {Aa : Option Addr} {na ca gp : Nat} {sp : Bool} {Ap : Option Addr} {np cp : Nat} {n P : Int} (h : DkN U w g s [⟨ga, sa, Aa, na, ca, n⟩, ⟨gp, sp, Ap, np, cp, P⟩] w1) : Two ga sa Aa na ca gp sp Ap np cp n P w1 :=
  ⟨h.c0 (b := ⟨ga, sa, Aa, na, ca, n⟩) (by simp), h.c1 (b := ⟨ga, sa, Aa, na, ca, n⟩) (by simp), h.c0 (b := ⟨gp, sp, Ap, np, cp, P⟩) (by simp), h.c1 (b := ⟨gp, sp, Ap, np, cp, P⟩) (by simp), h.lt (b := ⟨ga, sa, Aa, na, ca, n⟩) (by simp), h.lt (b := ⟨gp, sp, Ap, np, cp, P⟩) (by simp), h.wi (b := ⟨ga, sa, Aa, na, ca, n⟩) (by simp), h.wi (b := ⟨gp, sp, Ap, np, cp, P⟩) (by simp)⟩
/-- What the first loop holds. -/
def DLoop (w : World) (g : Nat) (bl : List Bi) (L : List UInt8) (A : Option Addr) (N : Nat) (i : Nat) (wl : World) : Prop := ∃ U s, DkN U w g s bl wl ∧ Fil L i s ∧ Rd wl A N (bs L) ∧ ∀ k, blk A = some k → ¬ U k ∧ k < wl.heap.size
theorem bs_take' (l : List UInt8) (k : Nat) : (bs l).take k = bs (l.take k) := by unfold bs; rw [List.map_take]
theorem bs_drop' (l : List UInt8) (k : Nat) : (bs l).drop k = bs (l.drop k) := by unfold bs; rw [List.map_drop]
/-- Integers in boxes, beside what was there. -/
structure NBx (W0 : World) (l : List Bi) (w : World) : Prop where
  new : New W0 w
  bx : ∀ b ∈ l, b.sat w
section
variable {W0 w w' : World} {l : List Bi} {b : Bi}
theorem NBx.step (h : NBx W0 l w) (hn : New w w') : NBx W0 l w' := ⟨h.new.trans hn (fun _ _ h => h), fun b hb => Bi.new (h.bx b hb) hn⟩
theorem NBx.far {gr : Nat} (h : NBx W0 l w) (hc : Chg (fun k => k = gr) w w') (h0 : W0.heap.size ≤ gr) (hb : ∀ b ∈ l, b.g ≠ gr) (hn : No32 w gr) : NBx W0 l w' :=
  ⟨h.new.trans hc (fun k hk e => by omega), fun b hm => Bi.keep (h.bx b hm) hc (hb b hm) (fun k e => by subst e; exact hn)⟩
theorem NBx.add (h : NBx W0 l w) (hb : b.sat w) : NBx W0 (b :: l) w := ⟨h.new, fun x hx => by
  rcases List.mem_cons.1 hx with rfl | hx
  · exact hb
  · exact h.bx x hx⟩
theorem NBx.at_ (h : NBx W0 l w) (hb : b ∈ l) : w.cell? ⟨b.g, 0, none⟩ = some (.bool b.s) ∧ w.cell? ⟨b.g, 1, none⟩ = some (.slice b.A b.n b.c) ∧ b.g < w.heap.size ∧ WI w (.agg #[.bool b.s, .slice b.A b.n b.c]) b.z := ⟨(h.bx b hb).1.cell 0 rfl, (h.bx b hb).1.cell 1 rfl, (h.bx b hb).1.lt, (h.bx b hb).2⟩
theorem bi_box {s : Bool} {A : Option Addr} {n c : Nat} {z : Int} (h : WI w (.agg #[.bool s, .slice A n c]) z) : (⟨w.heap.size, s, A, n, c, z⟩ : Bi).sat (w.alloc (.cells #[.bool s, .slice A n c] 29)) := ⟨Blk.new _ _ _, h.new ((Chg.refl _ w).alloc _)⟩
end
theorem rdr_no32 {w : World} {g : Nat} {bo : Option Nat} {l : List UInt8} {e : Int} (h : RdrAt w g bo l e) : No32 w g ∧ g < w.heap.size := by
  obtain ⟨A, n, c, hb, _⟩ := h
  exact ⟨.inl ⟨_, _, hb, fun z hz => by simp at hz⟩, hb.lt⟩
theorem cmpI_same (x : Int) : cmpI x x = 0 := by unfold cmpI; simp
/-- Two integers in boxes. -/
def Box2 (W : World) (v : Value) (z : Int) (v' : Value) (z' : Int) (wx : World) : Prop := ∃ b b' : Bi, v = .pointer (some ⟨b.g, 0, none⟩) ∧ v' = .pointer (some ⟨b'.g, 0, none⟩) ∧ b.sat wx ∧ b'.sat wx ∧ b.z = z ∧ b'.z = z' ∧ New W wx
theorem box2_mk {W wx : World} {g g' n n' c c' : Nat} {s s' : Bool} {A A' : Option Addr} {z z' : Int} (h : Blk wx g 29 #[.bool s, .slice A n c]) (h' : Blk wx g' 29 #[.bool s', .slice A' n' c']) (hv : WI wx (.agg #[.bool s, .slice A n c]) z) (hv' : WI wx (.agg #[.bool s', .slice A' n' c']) z') (hn : New W wx) : Box2 W (.pointer (some ⟨g, 0, none⟩)) z (.pointer (some ⟨g', 0, none⟩)) z' wx :=
  ⟨⟨g, s, A, n, c, z⟩, ⟨g', s', A', n', c', z'⟩, rfl, rfl, ⟨h, hv⟩, ⟨h', hv'⟩, rfl, rfl, hn⟩
/-- Div by an int, whether it is 0. -/
theorem wdiv_s (n m : Int) (hn : -9223372036854775808 ≤ n ∧ n ≤ 9223372036854775807) (hm : -9223372036854775808 ≤ m ∧ m ≤ 9223372036854775807) (v : Value) : ∃ z1 z2 cd : Int, (m ≠ 0 → z1 = n ∧ z2 = 0 ∧ cd = 0) ∧ ∀ W v', WI W v (n * m) → WI W v' m → Calls Tryz.prog 22 #[v, v'] W fun e w' => ∃ s1 A1 n1 c1 s2 A2 n2 c2, e = .returned (.tuple #[.agg #[.bool s1, .slice A1 n1 c1], .agg #[.bool s2, .slice A2 n2 c2], .int .i64 cd]) ∧ Hid (WI w' (.agg #[.bool s1, .slice A1 n1 c1]) z1 ∧ WI w' (.agg #[.bool s2, .slice A2 n2 c2]) z2 ∧ New W w') := by
  by_cases h0 : m = 0
  · subst h0
    refine ⟨0, 0, 1, fun h => absurd rfl h, fun W v' h1 h2 => (wdiv_zero v v' _ W h1 h2).mono fun e w' ⟨h3, h4⟩ => ⟨false, none, 0, 0, false, none, 0, 0, h3, WI.zero _, WI.zero _, h4⟩⟩
  · refine ⟨n, 0, 0, fun _ => ⟨rfl, rfl, rfl⟩, fun W v' h1 h2 => ?_⟩
    have h := wdiv_any v v' (n * m) m W h1 h2 (Sm.mul hn hm).p9 (Sm.int hm).p9 h0
    rwa [Int.mul_ediv_cancel _ h0, Int.mul_emod_left] at h
theorem slice_up {P : Program} {t e : TypeId} (ht : P.underlying t = some (.slice e)) {A : Option Addr} {n c k : Nat} (hs : (P.info? e).map (·.size) = some 1) (hk : k ≤ c) (W : World) : (Instr.slice t (.slice A n c) none (some (.int .i64 (k : Int))) none).run P W = .ok (.slice A k c) W := by
  have hel : P.elem t = e := by simp [Program.elem, ht]
  have := run_slice_h (P := P) W t A n c (by rw [hel]; exact ht) .i64 (k : Int) (by omega) (by omega)
  rw [this, hel]
  cases hi : P.info? e with
  | none => rw [hi] at hs; cases hs
  | some i =>
    rw [hi] at hs
    have hs : i.size = 1 := by simpa using hs
    have e1 : A.map (fun x : Addr => x.add 0) = A := by cases A <;> simp [Addr.add]
    simp [sizeOf, typeInfo, hi, hs, sliced, e1]
theorem slice_from {P : Program} {t e : TypeId} (ht : P.underlying t = some (.slice e)) {A : Option Addr} {n c k : Nat} (hs : (P.info? e).map (·.size) = some 1) (hk : k ≤ n) (W : World) : (Instr.slice t (.slice A n c) (some (.int .i64 (k : Int))) none none).run P W = .ok (.slice (if c = k then A else A.map (·.add k)) (n - k) (c - k)) W := by
  have hel : P.elem t = e := by simp [Program.elem, ht]
  have := run_slice_l (P := P) W t A n c (by rw [hel]; exact ht) .i64 (k : Int) (by omega) (by omega)
  rw [this, hel]
  cases hi : P.info? e with
  | none => rw [hi] at hs; cases hs
  | some i =>
    rw [hi] at hs
    have hs : i.size = 1 := by simpa using hs
    simp [sizeOf, typeInfo, hi, hs, sliced]
theorem rd_from {w : World} {A : Option Addr} {n c k : Nat} {xs : List Value} (h : Rd w A n xs) (hk : k ≤ n) (hc : n ≤ c) : Rd w (if c = k then A else A.map (·.add k)) (n - k) (xs.drop k) := by
  refine ⟨by rw [List.length_drop, h.1], fun h0 => ?_⟩
  rw [if_neg (by omega)]
  obtain ⟨ad, rfl, hcell⟩ := h.2 (by omega)
  refine ⟨_, rfl, fun j u hu => ?_⟩
  rw [add_add']
  exact hcell _ u (by rw [← hu, List.getElem?_drop])
end Go.Proofs.YtblcaeoeeepajaaGreatDoor
