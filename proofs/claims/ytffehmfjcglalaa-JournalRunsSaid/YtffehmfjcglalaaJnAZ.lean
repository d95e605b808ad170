/- Contracts of journal.Open, Len, Up. -/
import Derived.Test.YtffehmfjcglalaaScanZ
import Derived.Test.YtffehmfjcglalaaFrameZ
import Derived.Test.YtffehmfjcglalaaDkHZ
import Derived.Test.YtffehmfjcglalaaDkGZ
import Derived.Test.YtffehmfjcglalaaG0
set_option linter.unusedSimpArgs false
set_option linter.unusedVariables false
namespace Go.Proofs.Ytffehmfjcglalaa
set_option linter.unusedVariables false
open Go.RowKit Go.Mem Go.Dk Go.Pure Go.Jn

/-- The cells of a log of the disk at g. -/
def lgCells (g : Nat) (l : Lg) : Array Value := #[.pointer (some ⟨g, 0, none⟩), .int .i64 l.file, .int .i64 (l.size : Int), .bool l.down]
/-- Rows of bytes from the block B on, none of them in T. -/
structure RowsJ (w : World) (B : Nat) (T : Nat → Prop) (A : Option Addr) (nl cl : Nat) (vs : List Value) (ls : List (List UInt8)) : Prop where
  own : w.ownsRow B 33 1 (.slice A nl cl) nl vs
  rows : Lists w vs ls
  up : Above B vs
  apart : (∀ k, blk A = some k → ¬ T k) ∧ ∀ v ∈ vs, ∀ A n c, v = .slice A n c → ∀ k, blk A = some k → ¬ T k
theorem RowsJ.nil (w : World) (B : Nat) (T : Nat → Prop) : RowsJ w B T none 0 0 [] [] :=
  ⟨World.ownsRow_nil _ _ _ _, Lists.nil w, fun v hv => (by simp at hv), fun k hk => (by cases hk), fun v hv => (by simp at hv)⟩
section
variable {w w' : World} {B nl cl : Nat} {T : Nat → Prop} {A : Option Addr} {vs : List Value} {ls : List (List UInt8)}
theorem RowsJ.blt (h : RowsJ w B T A nl cl vs ls) : (∀ k, blk A = some k → B ≤ k ∧ k < w.heap.size) ∧ ∀ v ∈ vs, ∀ A n c, v = .slice A n c → ∀ k, blk A = some k → k < w.heap.size :=
  ⟨fun k hk => own_blk_le h.own hk, fun v hv A n c e k hk => by
    obtain ⟨i, hi, he⟩ := List.mem_iff_getElem.1 hv
    obtain ⟨A', n', c', h1, _, _, _, h5⟩ := h.rows.2 i v (ls[i]'(by rw [← h.rows.1]; exact hi)) (by rw [List.getElem?_eq_getElem hi, he]) (List.getElem?_eq_getElem _)
    rw [e] at h1
    injection h1 with h1
    subst h1
    exact h5 k hk⟩
theorem RowsJ.chg (h : RowsJ w B T A nl cl vs ls) (hc : Chg T w w') : RowsJ w' B T A nl cl vs ls :=
  ⟨own_chg h.own hc h.apart.1, h.rows.chg hc h.apart.2, h.up, h.apart⟩
theorem RowsJ.sub (h : RowsJ w B T A nl cl vs ls) {T' : Nat → Prop} (ht : ∀ k, B ≤ k → k < w.heap.size → T' k → T k) : RowsJ w B T' A nl cl vs ls :=
  ⟨h.own, h.rows, h.up, fun k hk hT => h.apart.1 k hk (ht k (h.blt.1 k hk).1 (h.blt.1 k hk).2 hT), fun v hv A n c e k hk hT => h.apart.2 v hv A n c e k hk (ht k (h.up v hv A n c e k hk) (h.blt.2 v hv A n c e k hk) hT)⟩
theorem RowsJ.did {g m : Nat} {V V' : Nat → Value} (h : RowsJ w B (ownD g m V) A nl cl vs ls) (hd : Did w w' g m V V') : RowsJ w' B (ownD g m V') A nl cl vs ls := by
  have h2 := h.sub (T' := ownD g m V') (fun k hB hk hT => by
    rcases hd.own k hT with h1 | h1
    · exact h1
    · omega)
  have h3 := h.chg hd.chg
  exact ⟨h3.own, h3.rows, h3.up, h2.apart⟩
theorem RowsJ.new (h : RowsJ w B T A nl cl vs ls) (hn : New w w') : RowsJ w' B T A nl cl vs ls :=
  ⟨own_chg h.own hn (fun _ _ hf => hf), h.rows.new hn, h.up, h.apart⟩
end
/-- What Open gives back. -/
def OpenV (w w' : World) (g m : Nat) (V : Nat → Value) (s : S) (file : Int) (e : Ending) : Prop :=
  ∃ p A nl cl vs V', e = .returned (.tuple #[p, .slice A nl cl, .int .i64 (openJ s file).2.1]) ∧ DI w' g m V' (openJ s file).1 ∧ Did w w' g m V V' ∧
    (((openJ s file).2.1 = 0 ∧ ∃ gl, p = .pointer (some ⟨gl, 0, none⟩) ∧ w.heap.size ≤ gl ∧ ¬ ownD g m V' gl ∧ Blk w' gl 65 (lgCells g ⟨file, (openJ s file).2.2.length, false⟩) ∧ RowsJ w' w.heap.size (fun k => ownD g m V' k ∨ k = gl) A nl cl vs (openJ s file).2.2) ∨
     ((openJ s file).2.1 ≠ 0 ∧ p = .pointer none ∧ RowsJ w' w.heap.size (ownD g m V') A nl cl vs (openJ s file).2.2))
theorem open_e1 {s : S} {file e : Int} (h : (read s file).2 = e) (he : e ≠ 0) : openJ s file = (s, e, []) := by
  unfold openJ
  rw [if_neg (by rw [h]; exact he), h]
theorem open_e2 {s s1 : S} {file e : Int} {b : List UInt8} (h : read s file = (b, 0)) (h1 : openT s file b = (s1, e)) (he : e ≠ 0) : openJ s file = (s1, e, []) := by
  unfold openJ
  rw [h, if_pos rfl]
  dsimp only
  rw [h1, if_neg he]
theorem open_e3 {s s1 s2 : S} {file e : Int} {b : List UInt8} (h : read s file = (b, 0)) (h1 : openT s file b = (s1, 0)) (h2 : sync s1 = (s2, e)) (he : e ≠ 0) : openJ s file = (s2, e, []) := by
  unfold openJ
  rw [h, if_pos rfl]
  dsimp only
  rw [h1, if_pos rfl]
  dsimp only
  rw [h2, if_neg he]
theorem open_e4 {s s1 s2 : S} {file : Int} {b : List UInt8} (h : read s file = (b, 0)) (h1 : openT s file b = (s1, 0)) (h2 : sync s1 = (s2, 0)) : openJ s file = (s2, 0, scanC b 0) := by
  unfold openJ
  rw [h, if_pos rfl]
  dsimp only
  rw [h1, if_pos rfl]
  dsimp only
  rw [h2, if_pos rfl]

theorem jOpen_nil (w : World) (file : Int) : Calls Try.prog 10 #[.pointer none, .int .i64 file] w fun e w' => e = .returned (.tuple #[.pointer none, .slice none 0 0, .int .i64 1]) ∧ New w w' := by
  go_enter Try.func10, Try.ntmps10
  go_wp2
  go_ret3
  exact ⟨rfl, Chg.refl _ _⟩
theorem open_fin {w w1 w2 w4 W : World} {g m cl : Nat} {V V' : Nat → Value} {s s' : S} {file : Int} {Al : Option Addr} {vs : List Value} {L : List (List UInt8)} (hd : DI w g m V s) (hn1 : New w w1) (h1 : w2.ownsRow w1.heap.size 33 1 (.slice Al L.length cl) L.length vs) (h2 : Lists w2 vs L) (h3 : Above w1.heap.size vs) (hn2 : New w1 w2) (hdid : Did w2 w4 g m V V') (hdi : DI w4 g m V' s')
    (hW : W = w4.alloc (.cells (lgCells g ⟨file, L.length, false⟩) 65)) : DI W g m V' s' ∧ Did w W g m V V' ∧
    ∃ gl, Value.pointer (some ⟨w4.heap.size, 0, none⟩) = .pointer (some ⟨gl, 0, none⟩) ∧ w.heap.size ≤ gl ∧ ¬ ownD g m V' gl ∧ Blk W gl 65 (lgCells g ⟨file, L.length, false⟩) ∧ RowsJ W w.heap.size (fun k => ownD g m V' k ∨ k = gl) Al L.length cl vs L := by
  have hnw : New w4 W := by rw [hW]; exact (Chg.refl _ w4).alloc _
  have hs1 := hn1.size
  have hs2 := hn2.size
  have hs4 := hdid.chg.size
  have hlt : ∀ k, ownD g m V k → k < w.heap.size := fun k hk => hd.lt hk
  have r2 : RowsJ w2 w.heap.size (ownD g m V) Al L.length cl vs L := by
    refine ⟨own_base h1 hs1, h2, fun v hv A n c e k hk => Nat.le_trans hs1 (h3 v hv A n c e k hk), fun k hk ho => ?_, fun v hv A n c e k hk ho => ?_⟩
    · have q1 := (own_blk_le h1 hk).1
      have q2 := hlt k ho
      omega
    · have q1 := h3 v hv A n c e k hk
      have q2 := hlt k ho
      omega
  have r4 := r2.did hdid
  refine ⟨hdi.new hnw, (Did.of_new hn1).trans ((Did.of_new hn2).trans (hdid.trans (Did.of_new hnw))), w4.heap.size, rfl, by omega, fun ho => by have := hdi.lt ho; omega, by rw [hW]; exact Blk.new _ _ _, ?_⟩
  have b4 := r4.blt
  have r5 : RowsJ w4 w.heap.size (fun k => ownD g m V' k ∨ k = w4.heap.size) Al L.length cl vs L := r4.sub (fun k _ hk hT => by
    rcases hT with h | h
    · exact h
    · omega)
  exact r5.new hnw
set_option maxHeartbeats 2000000 in
set_option maxRecDepth 100000 in
theorem jOpen_any (g m : Nat) (V : Nat → Value) (s : S) (w : World) (h : DI w g m V s) (file : Int) :
    Calls Try.prog 10 #[.pointer (some ⟨g, 0, none⟩), .int .i64 file] w fun e w' => OpenV w w' g m V s file e := by
  have HH := Lib.hid h
  obtain ⟨b, e0, hr⟩ : ∃ b e0, read s file = (b, e0) := ⟨_, _, rfl⟩
  have hbl : b.length ≤ 16777216 := by
    have : b = (read s file).1 := by rw [hr]
    rw [this]
    unfold Dk.read
    split
    · simp
    · split
      · simp
      · exact h.wf.len _
  clear h
  by_cases he0 : e0 = 0
  case neg =>
    have HR := Lib.hid hr
    unfold OpenV
    rw [open_e1 (e := e0) (by rw [hr]) he0]
    clear hr
    go_enter Try.func10, Try.ntmps10
    go_wp2_with (go_at_call 28; refine (dRead_any g m V s _ HH.out file).mono ?_; rw [HR.out]; rintro e w1 ⟨A1, c1, rfl, hown1, hn1⟩; have H1 := Lib.hid (And.intro hown1 hn1); clear hown1 hn1)
    go_ret3
    exact ⟨_, none, 0, 0, [], V, rfl, HH.out.new H1.out.2, Did.of_new H1.out.2, .inr ⟨he0, rfl, RowsJ.nil _ _ _⟩⟩
  subst he0
  obtain ⟨L, hL⟩ : ∃ L, scanC b 0 = L := ⟨_, rfl⟩
  obtain ⟨N, hN⟩ : ∃ N, (framesP 0 L).length = N := ⟨_, rfl⟩
  obtain ⟨s1, e1, h1⟩ : ∃ s1 e1, openT s file b = (s1, e1) := ⟨_, _, rfl⟩
  obtain ⟨s2, e2, h2⟩ : ∃ s2 e2, sync s1 = (s2, e2) := ⟨_, _, rfl⟩
  have HR := Lib.hid hr
  have HL := Lib.hid hL
  have HN := Lib.hid hN
  have HBL := Lib.hid hbl
  obtain ⟨n, hn⟩ : ∃ n, b.length = n := ⟨_, rfl⟩
  have HNn := Lib.hid hn
  have H2 := Lib.hid h2
  have hnl : (L.length : Int) ≤ 16777216 := by
    have q1 := framesP_len L 0
    have q2 := (frames_scan _ b 0 (Nat.le_refl _)).2
    rw [hL] at q2
    omega
  by_cases hlt : N < n
  · -- loose bytes behind the records
    have ht : truncate s file (N : Int) = (s1, e1) := by
      rw [← h1]
      unfold openT
      rw [hL, hN, hn, if_pos hlt]
    have HT := Lib.hid ht
    have H1 := Lib.hid h1
    have hlt' : (N : Int) < (n : Int) := by omega
    by_cases he1 : e1 = 0
    case neg =>
      unfold OpenV
      rw [open_e2 hr h1 he1]
      clear hr hL hN hn ht h1 h2 hbl
      go_enter Try.func10, Try.ntmps10
      go_wp2_with (first
        | (go_at_call 28; refine (dRead_any g m V s _ HH.out file).mono ?_; rw [HR.out]; rintro e w1 ⟨A1, c1, rfl, hown1, hn1⟩; rw [HNn.out] at hown1 ⊢; have HA1 := Lib.hid (And.intro hown1 hn1); clear hown1 hn1)
        | (go_at_call 31; refine (scan_new A1 n c1 b w1 (Rd.of_own HA1.out.1) (by have := HBL.out; have := HNn.out; omega) (own_cap HA1.out.1).1 (own_cap HA1.out.1).2 (fun k hk => (own_blk_le HA1.out.1 hk).2)).mono ?_; rw [HL.out, HN.out]; rintro e w2 ⟨Al, nl, cl, vs, rfl, hown2, hls2, hab2, hn2⟩; have enl := (Rd.of_own hown2).len; rw [hls2.1] at enl; subst enl; have HA2 := Lib.hid (And.intro hown2 (And.intro hls2 (And.intro hab2 hn2))); clear hown2 hls2 hab2 hn2)
        | (go_at_call 32; refine (dTruncate_any g m V s _ ((HH.out.new HA1.out.2).new HA2.out.2.2.2) file (N : Int)).mono ?_; rw [HT.out]; rintro e w3 ⟨rfl, V3, hdi3, hd3⟩; have HA3 := Lib.hid (And.intro hdi3 hd3); clear hdi3 hd3))
      go_ret3
      exact ⟨_, none, 0, 0, [], V3, rfl, HA3.out.1, (Did.of_new HA1.out.2).trans ((Did.of_new HA2.out.2.2.2).trans HA3.out.2), .inr ⟨he1, rfl, RowsJ.nil _ _ _⟩⟩
    subst he1
    by_cases he2 : e2 = 0
    case neg =>
      unfold OpenV
      rw [open_e3 hr h1 h2 he2]
      clear hr hL hN hn ht h1 h2 hbl
      go_enter Try.func10, Try.ntmps10
      go_wp2_with (first
        | (go_at_call 28; refine (dRead_any g m V s _ HH.out file).mono ?_; rw [HR.out]; rintro e w1 ⟨A1, c1, rfl, hown1, hn1⟩; rw [HNn.out] at hown1 ⊢; have HA1 := Lib.hid (And.intro hown1 hn1); clear hown1 hn1)
        | (go_at_call 31; refine (scan_new A1 n c1 b w1 (Rd.of_own HA1.out.1) (by have := HBL.out; have := HNn.out; omega) (own_cap HA1.out.1).1 (own_cap HA1.out.1).2 (fun k hk => (own_blk_le HA1.out.1 hk).2)).mono ?_; rw [HL.out, HN.out]; rintro e w2 ⟨Al, nl, cl, vs, rfl, hown2, hls2, hab2, hn2⟩; have enl := (Rd.of_own hown2).len; rw [hls2.1] at enl; subst enl; have HA2 := Lib.hid (And.intro hown2 (And.intro hls2 (And.intro hab2 hn2))); clear hown2 hls2 hab2 hn2)
        | (go_at_call 32; refine (dTruncate_any g m V s _ ((HH.out.new HA1.out.2).new HA2.out.2.2.2) file (N : Int)).mono ?_; rw [HT.out]; rintro e w3 ⟨rfl, V3, hdi3, hd3⟩; have HA3 := Lib.hid (And.intro hdi3 hd3); clear hdi3 hd3)
        | (go_at_call 33; refine (dSync_any g m V3 s1 _ HA3.out.1).mono ?_; rw [H2.out]; rintro e w4 ⟨rfl, hdi4, hd4⟩; have HA4 := Lib.hid (And.intro hdi4 hd4); clear hdi4 hd4))
      go_ret3
      exact ⟨_, none, 0, 0, [], V3, rfl, HA4.out.1, (Did.of_new HA1.out.2).trans ((Did.of_new HA2.out.2.2.2).trans (HA3.out.2.trans HA4.out.2)), .inr ⟨he2, rfl, RowsJ.nil _ _ _⟩⟩
    subst he2
    unfold OpenV
    rw [open_e4 hr h1 h2, hL]
    clear hr hL hN hn ht h1 h2 hbl
    go_enter Try.func10, Try.ntmps10
    go_wp2_with (first
      | (go_at_call 28; refine (dRead_any g m V s _ HH.out file).mono ?_; rw [HR.out]; rintro e w1 ⟨A1, c1, rfl, hown1, hn1⟩; rw [HNn.out] at hown1 ⊢; have HA1 := Lib.hid (And.intro hown1 hn1); clear hown1 hn1)
      | (go_at_call 31; refine (scan_new A1 n c1 b w1 (Rd.of_own HA1.out.1) (by have := HBL.out; have := HNn.out; omega) (own_cap HA1.out.1).1 (own_cap HA1.out.1).2 (fun k hk => (own_blk_le HA1.out.1 hk).2)).mono ?_; rw [HL.out, HN.out]; rintro e w2 ⟨Al, nl, cl, vs, rfl, hown2, hls2, hab2, hn2⟩; have enl := (Rd.of_own hown2).len; rw [hls2.1] at enl; subst enl; have HA2 := Lib.hid (And.intro hown2 (And.intro hls2 (And.intro hab2 hn2))); clear hown2 hls2 hab2 hn2)
      | (go_at_call 32; refine (dTruncate_any g m V s _ ((HH.out.new HA1.out.2).new HA2.out.2.2.2) file (N : Int)).mono ?_; rw [HT.out]; rintro e w3 ⟨rfl, V3, hdi3, hd3⟩; have HA3 := Lib.hid (And.intro hdi3 hd3); clear hdi3 hd3)
      | (go_at_call 33; refine (dSync_any g m V3 s1 _ HA3.out.1).mono ?_; rw [H2.out]; rintro e w4 ⟨rfl, hdi4, hd4⟩; have HA4 := Lib.hid (And.intro hdi4 hd4); clear hdi4 hd4))
    go_ret3
    obtain ⟨q1, q2, q3⟩ := open_fin (file := file) HH.out HA1.out.2 HA2.out.1 HA2.out.2.1 HA2.out.2.2.1 HA2.out.2.2.2 (HA3.out.2.trans HA4.out.2) HA4.out.1 rfl
    exact ⟨_, Al, L.length, cl, vs, V3, rfl, q1, q2, .inl ⟨trivial, q3⟩⟩
  · have ht : openT s file b = (s, 0) := by
      unfold openT
      rw [hL, hN, hn, if_neg hlt]
    rw [ht] at h1
    obtain ⟨rfl, rfl⟩ : s = s1 ∧ 0 = e1 := by injection h1 with q1 q2; exact ⟨q1, q2⟩
    have hge : (n : Int) ≤ (N : Int) := by omega
    by_cases he2 : e2 = 0
    case neg =>
      unfold OpenV
      rw [open_e3 hr ht h2 he2]
      clear hr hL hN hn ht h1 h2 hbl
      go_enter Try.func10, Try.ntmps10
      go_wp2_with (first
        | (go_at_call 28; refine (dRead_any g m V s _ HH.out file).mono ?_; rw [HR.out]; rintro e w1 ⟨A1, c1, rfl, hown1, hn1⟩; rw [HNn.out] at hown1 ⊢; have HA1 := Lib.hid (And.intro hown1 hn1); clear hown1 hn1)
        | (go_at_call 31; refine (scan_new A1 n c1 b w1 (Rd.of_own HA1.out.1) (by have := HBL.out; have := HNn.out; omega) (own_cap HA1.out.1).1 (own_cap HA1.out.1).2 (fun k hk => (own_blk_le HA1.out.1 hk).2)).mono ?_; rw [HL.out, HN.out]; rintro e w2 ⟨Al, nl, cl, vs, rfl, hown2, hls2, hab2, hn2⟩; have enl := (Rd.of_own hown2).len; rw [hls2.1] at enl; subst enl; have HA2 := Lib.hid (And.intro hown2 (And.intro hls2 (And.intro hab2 hn2))); clear hown2 hls2 hab2 hn2)
        | (go_at_call 33; refine (dSync_any g m V s _ ((HH.out.new HA1.out.2).new HA2.out.2.2.2)).mono ?_; rw [H2.out]; rintro e w4 ⟨rfl, hdi4, hd4⟩; have HA4 := Lib.hid (And.intro hdi4 hd4); clear hdi4 hd4))
      go_ret3
      exact ⟨_, none, 0, 0, [], V, rfl, HA4.out.1, (Did.of_new HA1.out.2).trans ((Did.of_new HA2.out.2.2.2).trans HA4.out.2), .inr ⟨he2, rfl, RowsJ.nil _ _ _⟩⟩
    subst he2
    unfold OpenV
    rw [open_e4 hr ht h2, hL]
    clear hr hL hN hn ht h1 h2 hbl
    go_enter Try.func10, Try.ntmps10
    go_wp2_with (first
      | (go_at_call 28; refine (dRead_any g m V s _ HH.out file).mono ?_; rw [HR.out]; rintro e w1 ⟨A1, c1, rfl, hown1, hn1⟩; rw [HNn.out] at hown1 ⊢; have HA1 := Lib.hid (And.intro hown1 hn1); clear hown1 hn1)
      | (go_at_call 31; refine (scan_new A1 n c1 b w1 (Rd.of_own HA1.out.1) (by have := HBL.out; have := HNn.out; omega) (own_cap HA1.out.1).1 (own_cap HA1.out.1).2 (fun k hk => (own_blk_le HA1.out.1 hk).2)).mono ?_; rw [HL.out, HN.out]; rintro e w2 ⟨Al, nl, cl, vs, rfl, hown2, hls2, hab2, hn2⟩; have enl := (Rd.of_own hown2).len; rw [hls2.1] at enl; subst enl; have HA2 := Lib.hid (And.intro hown2 (And.intro hls2 (And.intro hab2 hn2))); clear hown2 hls2 hab2 hn2)
      | (go_at_call 33; refine (dSync_any g m V s _ ((HH.out.new HA1.out.2).new HA2.out.2.2.2)).mono ?_; rw [H2.out]; rintro e w4 ⟨rfl, hdi4, hd4⟩; have HA4 := Lib.hid (And.intro hdi4 hd4); clear hdi4 hd4))
    go_ret3
    obtain ⟨q1, q2, q3⟩ := open_fin (file := file) HH.out HA1.out.2 HA2.out.1 HA2.out.2.1 HA2.out.2.2.1 HA2.out.2.2.2 HA4.out.2 HA4.out.1 rfl
    exact ⟨_, Al, L.length, cl, vs, V, rfl, q1, q2, .inl ⟨trivial, q3⟩⟩
end Go.Proofs.Ytffehmfjcglalaa
