/- The parts Scan, PureJn, JnA, JnB, JnC, RefLists, PureJ2, PureJ3, PureJ4, JrG, RowW, JrR, PureJ5 of the proof, in one text. -/
import Derived.Defers
import Derived.Deep.RegionHeld3
import Derived.Test.YtblcaeoeeepajaaGreatDoorB4
set_option linter.unusedSimpArgs false
set_option linter.unusedVariables false

namespace Go.Proofs.YtblcaeoeeepajaaGreatDoor
set_option linter.unusedVariables false
open Go.RowKit Go.Shelf Go.Mem Go.Pure
attribute [local go_sem] Oper.semAt_some

/-- A record that is handed on: its slice, its bytes, the size of its frame. -/
structure Rec where
  A : Option Addr
  n : Nat
  c : Nat
  r : List UInt8
  size : Nat
def Rec.val (x : Rec) : Value := .slice x.A x.n x.c
def recSum (l : List Rec) : Nat := (l.map (·.size)).sum
theorem recSum_snoc (l : List Rec) (x : Rec) : recSum (l ++ [x]) = recSum l + x.size := by simp [recSum]

/-- What a round of Scan keeps: old blocks, the iterator's box, all rows of bytes. -/
def KpS (B0 Bs : Nat) (W W' : World) : Prop :=
  (∀ k, k < B0 → W'.heap[k]? = W.heap[k]?) ∧ W'.heap[Bs]? = W.heap[Bs]? ∧ (∀ (k : Nat) (cs : Array Value) (fz : Nat × Nat), W.heap[k]? = some (.cells cs 5 fz) → W'.heap[k]? = some (.cells cs 5 fz)) ∧ W.heap.size ≤ W'.heap.size
theorem KpS.refl (B0 Bs : Nat) (W : World) : KpS B0 Bs W W := ⟨fun _ _ => rfl, rfl, fun _ _ _ h => h, Nat.le_refl _⟩
theorem KpS.trans {B0 Bs : Nat} {A B C : World} (h : KpS B0 Bs A B) (h' : KpS B0 Bs B C) : KpS B0 Bs A C :=
  ⟨fun k hk => (h'.1 k hk).trans (h.1 k hk), h'.2.1.trans h.2.1, fun k cs fz hc => h'.2.2.1 k cs fz (h.2.2.1 k cs fz hc), Nat.le_trans h.2.2.2 h'.2.2.2⟩
theorem KpS.new {B0 Bs : Nat} {W W' : World} (h : New W W') (hB : B0 ≤ W.heap.size) (hBs : Bs < W.heap.size) : KpS B0 Bs W W' :=
  ⟨fun k hk => h.block k (by omega) (fun h => h), h.block Bs hBs (fun h => h), fun k cs fz hc => h.heap hc (fun h => h), h.size⟩
theorem KpS.own {B0 Bs base : Nat} {W W' : World} (h : KpS B0 Bs W W') {A : Option Addr} {n c : Nat} {xs : List Value} (ho : W.ownsRow base 5 1 (.slice A n c) n xs) : W'.ownsRow base 5 1 (.slice A n c) n xs := by
  refine ⟨ho.1, ?_⟩
  rcases ho.2 with h0 | ⟨g, cap, cur, hv, hb, hg, r⟩
  · exact .inl h0
  · exact .inr ⟨g, cap, cur, hv, hb, h.2.2.1 g cur _ hg, r⟩

/-- What is known of the records that have come. -/
def RecsOk (B0 : Nat) (b : List UInt8) (pre : List Rec) (W : World) : Prop :=
  recSum pre ≤ b.length ∧ pre.length ≤ recSum pre ∧ scanC b 0 = pre.map (·.r) ++ scanC (b.drop (recSum pre)) pre.length ∧ recSum pre = (framesP 0 (pre.map (·.r))).length ∧
    ∀ x ∈ pre, W.ownsRow B0 5 1 (.slice x.A x.n x.c) x.n (bs x.r)

theorem RecsOk.stab (B B0 : Nat) (b : List UInt8) (pre : List Rec) : Stab B (RecsOk B0 b pre) := fun W W' row ⟨h1, h2, h3, h4, h5⟩ hg hr =>
  ⟨h1, h2, h3, h4, fun x hx => row_kept (h5 x hx) hg (fun r e => (hr r e).2)⟩

theorem recs_lists {B0 : Nat} {b : List UInt8} {ys : List Rec} {W : World} (h : RecsOk B0 b ys W) : Lists W (ys.map Rec.val) (ys.map (·.r)) := by
  refine ⟨by simp, fun i v l hv hl => ?_⟩
  rw [List.getElem?_map, Option.map_eq_some_iff] at hv hl
  obtain ⟨x, hx, rfl⟩ := hv
  obtain ⟨x', hx', rfl⟩ := hl
  rw [hx] at hx'
  injection hx' with hx'
  subst hx'
  have ho := h.2.2.2.2 x (List.mem_of_getElem? hx)
  have hc := own_cap ho
  exact ⟨x.A, x.n, x.c, rfl, hc.1, hc.2, Rd.of_own ho, fun k hk => (own_blk_le ho hk).2⟩

/-- The blocks of byte slices are new. -/
def Above (B : Nat) (vs : List Value) : Prop := ∀ v ∈ vs, ∀ A n c, v = .slice A n c → ∀ k, blk A = some k → B ≤ k
theorem recs_above {B0 : Nat} {b : List UInt8} {ys : List Rec} {W : World} (h : RecsOk B0 b ys W) : Above B0 (ys.map Rec.val) := by
  intro v hv A n c e k hk
  obtain ⟨x, hx, rfl⟩ := List.mem_map.1 hv
  have ho := h.2.2.2.2 x hx
  unfold Rec.val at e
  injection e with e1 e2 e3
  exact (own_blk_le ho (by rw [e1]; exact hk)).1

set_option maxRecDepth 100000 in
set_option maxHeartbeats 2000000 in
theorem records1_in (n : Nat) (hn : 1 ≤ n) (l Bs B0 : Nat) (A : Option Addr) (len cap : Nat) (b : List UInt8) (hlen : len ≤ 100000000) (hlc : len ≤ cap) (hcm : cap ≤ maxLen) (J Jx : List Rec → World → Prop)
    (hJ : ∀ s W W', J s W → New W W' → J s W')
    (hY : ∀ pre x W1, J pre W1 → (recSum pre + x.size ≤ b.length ∧ 1 ≤ x.size ∧ W1.ownsRow B0 5 1 (.slice x.A x.n x.c) x.n (bs x.r)) → YieldAt Fence.wide (n - 1) Tryz.prog l #[.slice x.A x.n x.c, .int .i64 x.size] W1 fun e W' =>
      (e = .returned (.bool true) ∧ J (pre ++ [x]) W' ∧ KpS B0 Bs W1 W') ∨ (e = .returned (.bool false) ∧ Jx (pre ++ [x]) W'))
    (W : World) (hBl : Bs < W.heap.size) (hB0 : B0 ≤ W.heap.size) (hBs : W.cell? ⟨Bs, 0, none⟩ = some (.slice A len cap)) (hA : ∀ k, blk A = some k → k < B0) (hr : Rd W A len (bs b)) (h0 : J [] W) :
    CallsIn Fence.wide n Tryz.prog 105 #[.func (.yield l) #[] #[], .pointer (some ⟨Bs, 0, none⟩)] W fun e W' => (∃ v, e = .returned v) ∧
      ((∃ ys, (scanC b 0 = ys.map (·.r) ∧ RecsOk B0 b ys W') ∧ J ys W') ∨ (∃ pre, True ∧ Jx pre W')) := by
  have hbl : b.length = len := by simpa using hr.len
  have HBL := Lib.hid hbl
  clear hbl
  refine callsIn_of_wp Tryz.func105 rfl trivial ?_ rfl
  simp only [Tryz.ntmps105, List.size_toArray, List.length_cons, List.length_nil, Nat.reduceAdd, Nat.reduceSub, Array.replicate_succ, Array.replicate_zero, List.push_toArray, List.append_toArray, List.nil_append, List.cons_append]
  gi_wp2
  gi_loopw [3, 4] (fun p i wr => ∃ pre : List Rec, p = .int .i64 (recSum pre) ∧ i = .int .i64 pre.length ∧ J pre wr ∧ KpS B0 Bs W wr ∧ RecsOk B0 b pre wr ∧ W.heap.size ≤ wr.heap.size)
    (fun p _ _ => len - (intOf p).toNat)
  case atStart => exact ⟨[], rfl, rfl, h0, KpS.refl _ _ _, ⟨by simp [recSum], by simp [recSum], by simp [recSum], by simp [recSum, framesP_nil], by simp⟩, Nat.le_refl _⟩
  case round =>
    obtain ⟨pre, rfl, rfl, hJs, hK, hok, hsz⟩ := hrel
    have HJ := Lib.hid hJs
    have HK := Lib.hid hK
    have HOK := Lib.hid hok
    obtain ⟨at_, hat⟩ : ∃ at_, recSum pre = at_ := ⟨_, rfl⟩
    obtain ⟨num, hnum⟩ : ∃ num, pre.length = num := ⟨_, rfl⟩
    have hle : at_ ≤ len := by have := hok.1; rw [HBL.out] at this; omega
    have hnl : num ≤ at_ := by have := hok.2.1; omega
    have HAT := Lib.hid hat
    have HNUM := Lib.hid hnum
    rw [hat, hnum]
    clear hJs hK hok hat hnum
    have hBs' : wr.cell? ⟨Bs, 0, none⟩ = some (.slice A len cap) := (World.cell?_of_block (w := W) HK.out.2.1).trans hBs
    have hr' : Rd wr A len (bs b) := ⟨hr.1, fun h => by
      obtain ⟨ad, rfl, hc⟩ := hr.2 h
      exact ⟨ad, rfl, fun j u hu => (World.cell?_of_block (w := W) (HK.out.1 _ (by rw [block_add]; exact hA _ rfl))).trans (hc j u hu)⟩⟩
    have HR := Lib.hid hr'
    have HR0 := Lib.hid hr
    have HA := Lib.hid hA
    have HY := Lib.hid hY
    have HJJ := Lib.hid hJ
    clear hr' hr hA hY hJ
    have hcut := fun W => run_cut elemBytes .i64 A len cap at_ (at_ : Int) rfl hle W
    gi_wp2
    refine ⟨trivial, (callsIn_wide.2 (first_any (num : Int) (cutA A cap at_) (len - at_) (cap - at_) (b.drop at_) wr (by omega) (by omega) (by have := HR.out.cutA (cap := cap) hle hlc; rwa [bs_drop] at this) (by omega) (by omega) (Nat.le_trans (Nat.sub_le _ _) hcm) (by
      intro k hk
      rw [blk_cutA] at hk
      have := HA.out k hk
      omega))).mono ?_⟩
    rintro e w1 ⟨hn1, ⟨hf, rfl⟩ | ⟨r, A1, n1, c1, hf, rfl, ho⟩⟩
    · have hJ1 : J pre w1 := HJJ.out _ _ _ HJ.out hn1
      have hok1 : RecsOk B0 b pre w1 := (RecsOk.stab 0 B0 b pre).new HOK.out hn1
      have hsc : scanC b 0 = pre.map (·.r) := by
        rw [HOK.out.2.2.1, HAT.out, HNUM.out, scanC_none hf, List.append_nil]
      have HF := Lib.hid (And.intro hsc (And.intro hok1 hJ1))
      clear hf hJ1 hok1 hsc hn1
      gi_wp2
      refine ⟨fun _ h => (by cases h), ?_⟩
      gi_wp2
      refine bodyPost_ret (results_none rfl _ _ _) rfl ?_
      exact ⟨⟨_, rfl⟩, .inl ⟨pre, ⟨HF.out.1, HF.out.2.1⟩, HF.out.2.2⟩⟩
    · have hfl := firstC_le hf
      rw [List.length_drop, HBL.out] at hfl
      have hfp := frameP_pos (num : Int) r
      obtain ⟨sz, hszq⟩ : ∃ sz, (frameP (num : Int) r).length = sz := ⟨_, rfl⟩
      rw [hszq] at hfl hfp ⊢
      have HSZ := Lib.hid hszq
      have ho' : w1.ownsRow B0 5 1 (.slice A1 n1 c1) n1 (bs r) := own_base ho (by omega)
      have hJ1 : J pre w1 := HJJ.out _ _ _ HJ.out hn1
      have hK1 : KpS B0 Bs W w1 := HK.out.trans (KpS.new hn1 (by omega) (by omega))
      have hok1 : RecsOk B0 b pre w1 := (RecsOk.stab 0 B0 b pre).new HOK.out hn1
      have hok2 : ∀ w2, KpS B0 Bs w1 w2 → RecsOk B0 b (pre ++ [⟨A1, n1, c1, r, sz⟩]) w2 := fun w2 hk2 => by
        obtain ⟨q1, q2, q3, q4, q5⟩ := hok1
        rw [HAT.out] at q1 q2 q3 q4
        rw [HNUM.out] at q2 q3
        refine ⟨?_, ?_, ?_, ?_, ?_⟩
        · rw [recSum_snoc, HAT.out, HBL.out]; simp only; omega
        · rw [recSum_snoc, HAT.out, List.length_append, HNUM.out]; simp only [List.length_singleton]; omega
        · rw [recSum_snoc, HAT.out, List.length_append, HNUM.out, q3, scanC_some hf, hszq]
          simp [List.drop_drop]
        · rw [recSum_snoc, HAT.out, List.map_append, List.map_cons, List.map_nil, framesP_snoc, List.length_append, ← q4, List.length_map, HNUM.out, Nat.zero_add, hszq]
        · intro x hx
          rcases List.mem_append.1 hx with hx | hx
          · exact hk2.own (q5 x hx)
          · simp at hx
            subst hx
            exact hk2.own ho'
      obtain ⟨fn, tmps, assign, body, hy, hRR⟩ := HY.out pre ⟨A1, n1, c1, r, sz⟩ w1 hJ1 ⟨by rw [HAT.out, HBL.out]; simp only; omega, hfp, ho'⟩
      have H1 := Lib.hid (And.intro hK1 (And.intro hok2 hn1))
      have HRR := Lib.hid hRR
      clear hf ho ho' hJ1 hK1 hok1 hok2 hn1 hRR hszq
      gi_wp2
      refine HRR.out.mono ?_
      rintro e w2 (⟨rfl, hJ2, hk2⟩ | ⟨rfl, hJx2⟩)
      · gi_wp2
        go_roundw
        case rel =>
          refine ⟨pre ++ [⟨A1, n1, c1, r, sz⟩], ?_, ?_, hJ2, H1.out.1.trans hk2, H1.out.2.1 w2 hk2, ?_⟩
          · rw [recSum_snoc, HAT.out]; go_num
          · rw [List.length_append, HNUM.out]; go_num
          · exact Nat.le_trans H1.out.1.2.2.2 hk2.2.2.2
        case measure => simp [intOf]; omega
      · gi_wp2
        refine bodyPost_ret (results_none rfl _ _ _) rfl ?_
        exact ⟨⟨_, rfl⟩, .inr ⟨_, trivial, hJx2⟩⟩

theorem elemLists : Elem Tryz.prog 57 33 (.slice none 0 0) 24 := Elem.mk' Tryz.underlying57 (by kernel_rfl) rfl

set_option maxHeartbeats 400000 in
theorem records_any (A : Option Addr) (len cap : Nat) (w : World) :
    Calls Tryz.prog 85 #[.slice A len cap] w fun e w' => ∃ Bs, e = .returned (.func (.func 105) #[] #[.pointer (some ⟨Bs, 0, none⟩)]) ∧ Blk w' Bs 33 #[.slice A len cap] ∧ New w w' ∧ w.heap.size ≤ Bs := by
  go_enter Tryz.func85, Tryz.ntmps85
  go_wp2
  go_ret
  exact ⟨w.heap.size, rfl, Blk.new _ _ _, (Chg.refl _ w).alloc _, Nat.le_refl _⟩

theorem records_seq (n : Nat) (hn : 1 ≤ n) (Bs B0 : Nat) (A : Option Addr) (len cap : Nat) (b : List UInt8) (hlen : len ≤ 100000000) (hlc : len ≤ cap) (hcm : cap ≤ maxLen) (w : World)
    (hBl : Bs < w.heap.size) (hB0 : B0 ≤ w.heap.size) (hBs : w.cell? ⟨Bs, 0, none⟩ = some (.slice A len cap)) (hA : ∀ k, blk A = some k → k < B0) (hr : Rd w A len (bs b)) :
    SeqF Fence.wide n Tryz.prog 105 #[.pointer (some ⟨Bs, 0, none⟩)] (fun x : Rec => #[.slice x.A x.n x.c, .int .i64 x.size])
      (fun pre x W => recSum pre + x.size ≤ b.length ∧ 1 ≤ x.size ∧ W.ownsRow B0 5 1 (.slice x.A x.n x.c) x.n (bs x.r)) (KpS B0 Bs) (fun ys W => scanC b 0 = ys.map (·.r) ∧ RecsOk B0 b ys W) (fun _ _ => True) w := fun l J Jx W hW hJ hY h0 =>
  records1_in n hn l Bs B0 A len cap b hlen hlc hcm J Jx hJ hY W (Nat.lt_of_lt_of_le hBl hW.size) (Nat.le_trans hB0 hW.size) (hW.cell hBs (fun h => h)) hA (hr.new hW) h0

set_option maxRecDepth 100000 in
set_option maxHeartbeats 2000000 in
theorem scan_new (A : Option Addr) (n c : Nat) (b : List UInt8) (w : World) (hr : Rd w A n (bs b)) (hn : n ≤ 100000000) (hnc : n ≤ c) (hcm : c ≤ maxLen) (hA : ∀ k, blk A = some k → k < w.heap.size) :
    Calls Tryz.prog 58 #[.slice A n c] w fun e w' => ∃ Al nl cl vs, e = .returned (.tuple #[.slice Al nl cl, .int .i64 (framesP 0 (scanC b 0)).length]) ∧
      w'.ownsRow w.heap.size 33 1 (.slice Al nl cl) nl vs ∧ Lists w' vs (scanC b 0) ∧ Above w.heap.size vs ∧ New w w' := by
  have hll : b.length = n := by have := hr.len; rwa [bs_length] at this
  have HLL := Lib.hid hll
  clear hll
  refine (callsIn_wide (n := 10)).1 ?_
  refine callsIn_of_wp_marks Tryz.func58 rfl trivial ?_ rfl
  simp only [Tryz.ntmps58, List.size_toArray, List.length_cons, List.length_nil, Nat.reduceAdd, Nat.reduceSub, Array.replicate_succ, Array.replicate_zero, List.push_toArray, List.append_toArray, List.nil_append, List.cons_append]
  gi_wp2_with (refine ⟨trivial, ?_⟩; gi_at_call 85; refine (callsIn_wide.2 (records_any _ _ _ _)).mono ?_; rintro e w' ⟨Bs, rfl, hBs, hnew, hle⟩)
  have hb1 : Blk w' w.heap.size 57 #[.slice none 0 0] := ((Blk.new w 57 #[.slice none 0 0]).alloc _).chg hnew (fun h => h)
  have hb2 : Blk w' (w.heap.size + 1) 3 #[.int .i64 0] := by
    have := Blk.new (w.alloc (.cells #[.slice none 0 0] 57)) 3 #[.int .i64 0]
    rw [World.size_alloc] at this
    exact this.chg hnew (fun h => h)
  have hn1 : New w w' := (((Chg.refl _ w).alloc _).alloc _).new hnew
  simp only [World.size_alloc] at hle
  have hbl := hBs.lt
  have hbs := hBs.cell 0 rfl
  have hr' := hr.new hn1
  clear hnew
  refine wpIn_range rfl (by omega) (gf := 105) (lb := #[.pointer (some ⟨Bs, 0, none⟩)]) rfl trivial (enters_of Tryz.func105 (by kernel_rfl) rfl)
    (records_seq 9 (by omega) Bs w.heap.size A n c b hn hnc hcm w' hbl hn1.size hbs hA hr') (fun h h' => KpS.trans h h') ?kb (fun _ => rfl) ?hFx ?hS (fun _ => Stab.const _ _)
    (fun pre W => ∃ A1 c1, Blk W w.heap.size 57 #[.slice A1 pre.length c1] ∧ W.ownsRow (Bs + 1) 33 1 (.slice A1 pre.length c1) pre.length (pre.map Rec.val) ∧ Blk W (w.heap.size + 1) 3 #[.int .i64 (recSum pre)] ∧ Below w.heap.size w W ∧ pre.length ≤ recSum pre ∧ recSum pre ≤ b.length ∧ Bs < W.heap.size)
    (fun _ _ _ => False) ?hI (fun _ _ => Stab.const _ _) ⟨none, 0, hb1, World.ownsRow_nil _ _ _ _, hb2, New.below hn1, by simp [recSum], by simp [recSum], hbl⟩ ?a1 ?assign ?body ?done ?stop
  case assign =>
    intro l' x W K hK
    gi_wp2
    exact hK
  case kb =>
    intro W l' o o' hl' ho hoc
    refine ⟨fun k hk => World.putObj_heap_other (by have := hn1.size; omega), World.putObj_heap_other (by omega), fun k cs fz hc => ?_, by simp⟩
    refine (World.putObj_heap_other (fun e => ?_)).trans hc
    subst e
    rw [hc] at ho
    cases ho
    simp [Obj.isCells] at hoc
  case hFx =>
    intro pre x
    exact Stab.and (Stab.const _ _) (Stab.and (Stab.const _ _) (Stab.own _ _ _ _ _ _ _))
  case hS =>
    intro xs
    exact Stab.and (Stab.const _ _) (RecsOk.stab _ _ _ _)
  case hI =>
    rintro pre W W' row ⟨A1, c1, h1, h2, h3, h4, h5, h6, h7⟩ hg hr
    exact ⟨A1, c1, blk_kept h1 hg (fun r e => (hr r e).2), row_kept h2 hg (fun r e => (hr r e).2), blk_kept h3 hg (fun r e => (hr r e).2), h4.grown hg h4.size (fun k e => by have := (hr k e).1; have := hn1.size; omega), h5, h6, Nat.lt_of_lt_of_le h7 hg.size⟩
  case stop =>
    rintro D c pre W _ _ h _
    exact h.elim
  case body =>
    rintro l' pre x W ⟨A1, c1, hb, ho, hbn, hB, hps, hpb, hBsl⟩ ⟨hsum, hxs, hox⟩
    have hcs := hb.cell 0 rfl
    have hfs := hb.frozen 0
    have hgl := hb.lt
    have hcn := hbn.cell 0 rfl
    have hfn := hbn.frozen 0
    have hgn := hbn.lt
    obtain ⟨N, hN⟩ : ∃ N, pre.length = N := ⟨_, rfl⟩
    obtain ⟨Sm, hSm⟩ : ∃ Sm, recSum pre = Sm := ⟨_, rfl⟩
    rw [HLL.out] at hsum hpb
    rw [hSm] at hbn hcn hsum hps hpb
    rw [hN] at hb ho hcs hps
    have HN := Lib.hid hN
    have HSm := Lib.hid hSm
    have HB := Lib.hid hb
    have HO := Lib.hid ho
    have HBN := Lib.hid hbn
    have HBB := Lib.hid hB
    have HX := Lib.hid hox
    clear hb ho hbn hB hN hSm hox hA hr hr' hb1 hb2 hn1 hBs hbs
    gi_wp2_with (gi_at_builtin; refine wpListIn_app elemLists rfl _ _ rfl rfl (HO.out.alloc _) rfl Rd.one (by simp [Value.oneCell']) (by simp only [maxLen]; omega) (by omega) (by simp; omega) ?_; intro A' c' w2 hown2 hg2 hat2; have hb2 := (HB.out.alloc _).grown hg2 (HB.out.ne_own HO.out (by decide)); have hcc2 := hb2.cell 0 rfl; have hff2 := hb2.frozen 0; have hbn2 := (HBN.out.alloc _).grown hg2 (HBN.out.ne_own HO.out (by decide)); have hcn2 := hbn2.cell 0 rfl; have hfn2 := hbn2.frozen 0; have HB2 := Lib.hid hb2; have HBN2 := Lib.hid hbn2; have HO2 := Lib.hid hown2; clear hb2 hbn2 hown2)
    have hne := HB2.out.ne_own HO2.out (by decide)
    have hne2 := HBN2.out.ne_own HO2.out (by decide)
    have hchg : Chg (fun k => k = w.heap.size ∨ k = w.heap.size + 1 ∨ blk A1 = some k) W ((w2.setCell ⟨w.heap.size, 0, none⟩ (.slice A' (N + 1) c')).setCell ⟨w.heap.size + 1, 0, none⟩ (.int .i64 ((Sm : Int) + (x.size : Int)))) :=
      (((((Chg.refl _ W).alloc _).grown hg2 (fun k hk _ => .inr (.inr hk))).setCell (fun _ => .inl rfl) _).setCell (fun _ => .inr (.inl rfl)) _)
    have hkeep : KeepsOthers W ((w2.setCell ⟨w.heap.size, 0, none⟩ (.slice A' (N + 1) c')).setCell ⟨w.heap.size + 1, 0, none⟩ (.int .i64 ((Sm : Int) + (x.size : Int)))) :=
      ((KeepsOthers.alloc _ _).trans ((KeepsOthers.of_app (HO.out.alloc _) hg2).trans ((KeepsOthers.setCell _ _ _).trans (KeepsOthers.setCell _ _ _))))
    have hBB : Below w.heap.size w ((w2.setCell ⟨w.heap.size, 0, none⟩ (.slice A' (N + 1) c')).setCell ⟨w.heap.size + 1, 0, none⟩ (.int .i64 ((Sm : Int) + (x.size : Int)))) := HBB.out.trans (hchg.below (fun k h => by
      rcases h with h | h | h
      · omega
      · omega
      · have := (own_blk_le HO.out h).1; omega) HBB.out.size)
    refine ⟨hkeep.from _, ⟨fun k hk => ?_, ?_, fun k cs fz hc => ?_, hchg.size⟩, A', c', ?_, ?_, ?_, hBB, ?_, ?_, Nat.lt_of_lt_of_le hBsl hchg.size⟩
    · refine hchg.block k (by have := HBB.out.size; omega) (fun h => ?_)
      rcases h with h | h | h
      · omega
      · omega
      · have := (own_blk_le HO.out h).1; omega
    · refine hchg.block Bs hBsl (fun h => ?_)
      rcases h with h | h | h
      · omega
      · omega
      · have := (own_blk_le HO.out h).1; omega
    · refine hchg.heap hc (fun h => ?_)
      rcases h with h | h | h
      · subst h
        have := HB.out
        unfold Blk at this
        rw [hc] at this
        cases this
      · subst h
        have := HBN.out
        unfold Blk at this
        rw [hc] at this
        cases this
      · rcases HO.out.2 with ⟨hv, _⟩ | ⟨g', cap, cur, hv, _, hh, _⟩
        · injection hv with hv; subst hv; cases h
        · injection hv with hv
          subst hv
          have : g' = k := by simpa [blk] using h
          subst this
          rw [hc] at hh
          cases hh
    · rw [List.length_append, HN.out]
      exact (HB2.out.set_ 0 _).far (by simp) _
    · rw [List.length_append, HN.out, List.map_append]
      change World.ownsRow _ _ _ _ (.slice A' (N + 1) c') (N + 1) (pre.map Rec.val ++ [x.val])
      have h1 := own_chg (S := fun k => k = w.heap.size) HO2.out ((Chg.refl (fun k => k = w.heap.size) w2).setCell (p := ⟨w.heap.size, 0, none⟩) (fun _ => rfl) (.slice A' (N + 1) c')) (fun k hk e => hne (by rw [hk, e]))
      exact own_chg (S := fun k => k = w.heap.size + 1) h1 ((Chg.refl (fun k => k = w.heap.size + 1) _).setCell (p := ⟨w.heap.size + 1, 0, none⟩) (fun _ => rfl) _) (fun k hk e => hne2 (by rw [hk, e]))
    · rw [recSum_snoc, HSm.out]
      exact (HBN2.out.far (p := ⟨w.heap.size, 0, none⟩) (by simp) _).set_ 0 _
    · rw [recSum_snoc, HSm.out, List.length_append, HN.out]; simp only [List.length_singleton]; omega
    · rw [recSum_snoc, HSm.out, HLL.out]; omega
  case done =>
    rintro D ys W hD ⟨hsc, hok⟩ ⟨A1, c1, hb, ho, hbn, hB, hps, hpb, hBsl⟩ hK
    have hcs := hb.cell 0 rfl
    have hcn := hbn.cell 0 rfl
    have HB := Lib.hid hb
    have HO := Lib.hid ho
    have HBB := Lib.hid hB
    have HK := Lib.hid hK
    have HSC := Lib.hid hsc
    have HOK := Lib.hid hok
    clear hb ho hbn hB hK hsc hok
    gi_wp2
    gi_region
    gi_wp2
    have hst : Stab 0 (fun V => (V.ownsRow (Bs + 1) 33 1 (.slice A1 ys.length c1) ys.length (ys.map Rec.val) ∧ RecsOk w.heap.size b ys V)) := Stab.and (Stab.own _ _ _ _ _ _ _) (RecsOk.stab _ _ _ _)
    have hfin := hst.put (W := W.drew) (l := D) (.deferred none) ⟨HO.out, HOK.out⟩ (Nat.zero_le _) HK.out rfl
    refine ⟨by simp, .inl ⟨_, _, rfl, run_takeDeferred (w := W.drew) HK.out, ?_⟩⟩
    refine ⟨_, results_tmp2 rfl _ _ _, A1, ys.length, c1, ys.map Rec.val, ?_, own_base hfin.1 (by omega), ?_, recs_above hfin.2, New.of_below (HBB.out.drew.trans (belowK_b (w := w) (Nat.le_refl _) _ D _ _ (by have := hn1.size; omega) HK.out rfl rfl))⟩
    · rw [HSC.out, ← HOK.out.2.2.2.1]
      rfl
    · rw [HSC.out]
      exact recs_lists hfin.2

theorem scan_any (A : Option Addr) (n c : Nat) (b : List UInt8) (w : World) (hr : Rd w A n (bs b)) (hn : n ≤ 100000000) (hnc : n ≤ c) (hcm : c ≤ maxLen) (hA : ∀ k, blk A = some k → k < w.heap.size) :
    Calls Tryz.prog 58 #[.slice A n c] w fun e w' => ∃ Al nl cl vs, e = .returned (.tuple #[.slice Al nl cl, .int .i64 (framesP 0 (scanC b 0)).length]) ∧
      w'.ownsRow w.heap.size 33 1 (.slice Al nl cl) nl vs ∧ Lists w' vs (scanC b 0) ∧ New w w' := by
  refine (scan_new A n c b w hr hn hnc hcm hA).mono ?_
  rintro e w' ⟨Al, nl, cl, vs, h1, h2, h3, _, h4⟩
  exact ⟨Al, nl, cl, vs, h1, h2, h3, h4⟩
end Go.Proofs.YtblcaeoeeepajaaGreatDoor

namespace Go.Jn
set_option linter.unusedVariables false
open Go.Dk Go.Pure

structure Lg where
  file : Int
  size : Nat
  down : Bool
/-- Open's cut. -/
def openT (s : S) (file : Int) (b : List UInt8) : S × Int :=
  if (framesP 0 (scanC b 0)).length < b.length then truncate s file ((framesP 0 (scanC b 0)).length : Int) else (s, 0)
def openJ (s : S) (file : Int) : S × Int × List (List UInt8) :=
  if (read s file).2 = 0 then
    if (openT s file (read s file).1).2 = 0 then
      if (sync (openT s file (read s file).1).1).2 = 0 then ((sync (openT s file (read s file).1).1).1, 0, scanC (read s file).1 0)
      else ((sync (openT s file (read s file).1).1).1, (sync (openT s file (read s file).1).1).2, [])
    else ((openT s file (read s file).1).1, (openT s file (read s file).1).2, [])
  else (s, (read s file).2, [])
def appJ (s : S) (g : Lg) (b : List UInt8) : S × Lg × Int :=
  if 65536 < b.length then (s, g, 4)
  else if g.down = true then (s, g, 24)
  else if (append s g.file (frameP g.size b)).2 = 0 then
    if (sync (append s g.file (frameP g.size b)).1).2 = 0 then ((sync (append s g.file (frameP g.size b)).1).1, { g with size := g.size + 1 }, 0)
    else ((sync (append s g.file (frameP g.size b)).1).1, { g with down := decide ((sync (append s g.file (frameP g.size b)).1).2 = 24) }, (sync (append s g.file (frameP g.size b)).1).2)
  else ((append s g.file (frameP g.size b)).1, { g with down := decide ((append s g.file (frameP g.size b)).2 = 24) }, (append s g.file (frameP g.size b)).2)

/-- What is scanned lies at the beginning. -/
theorem frames_scan (n : Nat) : ∀ (b : List UInt8) (k : Nat), b.length ≤ n → framesP k (scanC b k) = b.take (framesP k (scanC b k)).length ∧ (framesP k (scanC b k)).length ≤ b.length := by
  induction n with
  | zero =>
    intro b k hb
    obtain rfl : b = [] := List.eq_nil_of_length_eq_zero (by omega)
    rw [scanC_none (firstC_nil _), framesP_nil]
    exact ⟨rfl, Nat.le_refl _⟩
  | succ n ih =>
    intro b k hb
    cases h : firstC b (k : Int) with
    | none => rw [scanC_none h, framesP_nil]; exact ⟨rfl, Nat.zero_le _⟩
    | some r =>
      have h1 := firstC_take h
      have h2 := firstC_le h
      have h3 := frameP_pos (k : Int) r
      obtain ⟨q1, q2⟩ := ih (b.drop (frameP (k : Int) r).length) (k + 1) (by rw [List.length_drop]; omega)
      rw [scanC_some h]
      have e : framesP k (r :: scanC (b.drop (frameP (k : Int) r).length) (k + 1)) = frameP (k : Int) r ++ framesP (k + 1) (scanC (b.drop (frameP (k : Int) r).length) (k + 1)) := rfl
      rw [e, List.length_append]
      rw [List.length_drop] at q2
      refine ⟨?_, by omega⟩
      rw [List.take_add, h1, ← q1]
theorem scan_nil (k : Nat) : scanC [] k = [] := scanC_none (firstC_nil _)
theorem scan_all (ls : List (List UInt8)) (h : (framesP 0 ls).length ≤ 9223372036854775807) : scanC (framesP 0 ls) 0 = ls := by
  have := scan_frames ls 0 [] (by simpa using h)
  rwa [List.append_nil, scan_nil, List.append_nil] at this
/-- A part of a frame is no frame. -/
theorem scan_part {k : Nat} {r : List UInt8} {m : Nat} (hk : k ≤ 1000000000) (hl : (frameP (k : Int) r).length ≤ 1000000000) (hm : m ≤ (frameP (k : Int) r).length) : scanC ((frameP (k : Int) r).take m) k = if m = (frameP (k : Int) r).length then [r] else [] := by
  split
  · rename_i e
    rw [e, List.take_of_length_le (Nat.le_refl _)]
    have hf : firstC (frameP (k : Int) r) (k : Int) = some r := firstC_of (by omega) (by omega) (by omega) (List.take_of_length_le (Nat.le_refl _))
    rw [scanC_some hf, List.drop_of_length_le (Nat.le_refl _), scan_nil]
  · rename_i e
    cases h : firstC ((frameP (k : Int) r).take m) (k : Int) with
    | none => exact scanC_none h
    | some x =>
      have h1 := firstC_take h
      have h2 := firstC_le h
      rw [List.length_take] at h2
      rw [List.take_take, Nat.min_eq_left (by omega)] at h1
      have hf : firstC (frameP (k : Int) r) (k : Int) = some x := firstC_of (by omega) (by omega) (by omega) h1
      have hg : firstC (frameP (k : Int) r) (k : Int) = some r := firstC_of (by omega) (by omega) (by omega) (List.take_of_length_le (Nat.le_refl _))
      rw [hf] at hg
      injection hg with hg
      subst hg
      omega

/-! ### a calm disk: on, no failure planned, all bytes durable -/
structure Cal (s : S) (F : Nat → List (List UInt8)) : Prop where
  on : s.off = false
  plan : s.plan < 0
  f : ∀ i, s.f i = framesP 0 (F i)
  firm : ∀ i, s.firm i = (s.f i).length
section
variable {s : S} {F : Nat → List (List UInt8)} {i : Nat}
theorem sync_plain (ho : s.off = false) (hp : s.plan < 0) : sync s = (firmAll s, 0) := by
  rw [sync_ok ho (by rw [pstep_none hp]), pstep_none hp]
theorem append_plain {b : List UInt8} (hi : i < 64) (ho : s.off = false) (hp : s.plan < 0) (hr : used s + b.length ≤ s.room) : append s (i : Int) b = (put s i (s.f i ++ b) (s.firm i), 0) := by
  unfold append
  rw [if_neg (by omega), if_neg (by rw [ho]; simp), if_neg (by omega), show (i : Int).toNat = i by omega]
  have : pstep (put s i (s.f i ++ b) (s.firm i)) = (put s i (s.f i ++ b) (s.firm i), false) := pstep_none hp
  rw [this]
  rfl
theorem append_full {b : List UInt8} (hi : i < 64) (ho : s.off = false) (hr : s.room < used s + b.length) : append s (i : Int) b = (s, 23) := by
  unfold append
  rw [if_neg (by omega), if_neg (by rw [ho]; simp), if_pos hr]
/-- Open of a disk that is on. -/
theorem open_on (hi : i < 64) (ho : s.off = false) (hp : s.plan < 0) : ∃ s', openJ s (i : Int) = (s', 0, scanC (s.f i) 0) ∧ s'.off = false ∧ s'.plan < 0 ∧ s'.room = s.room ∧ s'.f = upd s.f i (framesP 0 (scanC (s.f i) 0)) ∧ ∀ j, s'.firm j = (s'.f j).length := by
  obtain ⟨q1, q2⟩ := frames_scan _ (s.f i) 0 (Nat.le_refl _)
  have hr : read s (i : Int) = (s.f i, 0) := read_at hi ho
  unfold openJ
  rw [hr]
  have key : ∃ s1, openT s (i : Int) (s.f i) = (s1, 0) ∧ s1.off = false ∧ s1.plan < 0 ∧ s1.room = s.room ∧ s1.f = upd s.f i (framesP 0 (scanC (s.f i) 0)) := by
    unfold openT
    split
    · rename_i hlt
      refine ⟨put s i ((s.f i).take (framesP 0 (scanC (s.f i) 0)).length) (min (s.firm i) (framesP 0 (scanC (s.f i) 0)).length), ?_, ho, hp, rfl, ?_⟩
      · unfold truncate
        rw [show ((i : Nat) : Int).toNat = i by omega, show (((framesP 0 (scanC (s.f i) 0)).length : Nat) : Int).toNat = (framesP 0 (scanC (s.f i) 0)).length by omega, if_neg (by omega), if_neg (by rw [ho]; simp), if_neg (by rw [pstep_none hp]; simp), pstep_none hp]
      · show upd s.f i _ = _
        rw [← q1]
    · rename_i hge
      refine ⟨s, rfl, ho, hp, rfl, ?_⟩
      have : framesP 0 (scanC (s.f i) 0) = s.f i := by rw [q1, List.take_of_length_le (by omega)]
      rw [this, upd_self]
  obtain ⟨s1, e1, h1, h2, h3, h4⟩ := key
  rw [e1, if_pos rfl, if_pos rfl]
  dsimp only
  rw [sync_plain h1 h2, if_pos rfl]
  exact ⟨firmAll s1, rfl, h1, h2, h3, h4, fun j => rfl⟩
theorem Cal.open (h : Cal s F) (hi : i < 64) (hl : ∀ j, (framesP 0 (F j)).length ≤ 9223372036854775807) : ∃ s', openJ s (i : Int) = (s', 0, F i) ∧ Cal s' F ∧ s'.room = s.room ∧ s'.f = s.f := by
  obtain ⟨s', e, h1, h2, h3, h4, h5⟩ := open_on hi h.on h.plan
  have es : scanC (s.f i) 0 = F i := by rw [h.f]; exact scan_all _ (hl i)
  rw [es] at e h4
  have ef : s'.f = s.f := by rw [h4, ← h.f i, upd_self]
  exact ⟨s', e, ⟨h1, h2, fun j => by rw [ef]; exact h.f j, h5⟩, h3, ef⟩
theorem Cal.app (h : Cal s F) {b : List UInt8} (hi : i < 64) (hb : b.length ≤ 65536) (hr : used s + (frameP ((F i).length : Nat) b).length ≤ s.room) : ∃ s', appJ s ⟨i, (F i).length, false⟩ b = (s', ⟨i, (F i).length + 1, false⟩, 0) ∧ Cal s' (upd F i (F i ++ [b])) ∧ used s' = used s + (frameP ((F i).length : Nat) b).length ∧ s'.room = s.room := by
  have ea := append_plain (b := frameP ((F i).length : Nat) b) hi h.on h.plan hr
  have es := sync_plain (s := put s i (s.f i ++ frameP ((F i).length : Nat) b) (s.firm i)) h.on h.plan
  refine ⟨firmAll (put s i (s.f i ++ frameP ((F i).length : Nat) b) (s.firm i)), ?_, ⟨h.on, h.plan, fun j => ?_, fun j => rfl⟩, ?_, rfl⟩
  · unfold appJ
    rw [if_neg (by omega), if_neg (by simp), ea, if_pos rfl]
    dsimp only
    rw [es, if_pos rfl]
  · show upd s.f i _ j = framesP 0 (upd F i _ j)
    unfold upd
    split
    · rename_i e
      rw [h.f, framesP_snoc, Nat.zero_add]
    · exact h.f j
  · have := put_used (s := s) hi (s.f i ++ frameP ((F i).length : Nat) b) (s.firm i)
    rw [List.length_append] at this
    show used (put s i (s.f i ++ frameP ((F i).length : Nat) b) (s.firm i)) = _
    omega
theorem Cal.full (h : Cal s F) {b : List UInt8} (hi : i < 64) (hb : b.length ≤ 65536) (hr : s.room < used s + (frameP ((F i).length : Nat) b).length) : appJ s ⟨i, (F i).length, false⟩ b = (s, ⟨i, (F i).length, false⟩, 23) := by
  have ea := append_full (b := frameP ((F i).length : Nat) b) hi h.on hr
  unfold appJ
  rw [if_neg (by omega), if_neg (by simp), ea, if_neg (by simp)]
  rfl
theorem Cal.crash (h : Cal s F) (keep : List Int) (flip : Int) : Cal (Dk.crash s keep flip) F ∧ (Dk.crash s keep flip).room = s.room := by
  have e : firmAll s = s := by
    have : (fun i => (s.f i).length) = s.firm := funext fun i => (h.firm i).symm
    unfold firmAll
    rw [this]
  refine ⟨⟨rfl, by show (-1 : Int) < 0; omega, fun i => ?_, fun i => rfl⟩, by unfold Dk.crash turned; split <;> rfl⟩
  have := crash_firm s keep flip i
  rw [e] at this
  rw [this]
  exact h.f i
theorem Cal.new (room : Nat) : Cal (Dk.new room) (fun _ => []) := ⟨rfl, by show (-1 : Int) < 0; omega, fun i => rfl, fun i => rfl⟩
theorem app_down {g : Lg} {b : List UInt8} (h : b.length ≤ 65536) (hd : g.down = true) : appJ s g b = (s, g, 24) := by
  unfold appJ
  rw [if_neg (by omega), if_pos hd]
theorem Cal.len (h : Cal s F) (hw : WF s) (j : Nat) : (framesP 0 (F j)).length ≤ 16777216 := by rw [← h.f j]; exact hw.len j
end
end Go.Jn

namespace Go.Proofs.YtblcaeoeeepajaaGreatDoor
set_option linter.unusedVariables false
open Go.RowKit Go.Mem Go.Dk Go.Pure Go.Jn

/-- The cells of a log of the disk at g. -/
def lgCells (g : Nat) (l : Lg) : Array Value := #[.pointer (some ⟨g, 0, none⟩), .int .i64 l.file, .int .i64 (l.size : Int), .bool l.down]
/-- Rows of bytes from the block B on, none of them in T. -/
structure RowsJ (w : World) (B : Nat) (T : Nat → Prop) (A : Option Addr) (nl cl : Nat) (vs : List Value) (ls : List (List UInt8)) : Prop where
  own : w.ownsRow B 33 1 (.slice A nl cl) nl vs
  rows : Lists w vs ls
  up : Above B vs
  apart : (∀ k, blk A = some k → ¬ T k) ∧ ∀ v ∈ vs, ∀ A n c, v = .slice A n c → ∀ k, blk A = some k → ¬ T k
theorem RowsJ.nil (w : World) (B : Nat) (T : Nat → Prop) : RowsJ w B T none 0 0 [] [] :=
  ⟨World.ownsRow_nil _ _ _ _, Lists.nil w, fun v hv => (by simp at hv), fun k hk => (by cases hk), fun v hv => (by simp at hv)⟩
section
variable {w w' : World} {B nl cl : Nat} {T : Nat → Prop} {A : Option Addr} {vs : List Value} {ls : List (List UInt8)}
theorem RowsJ.blt (h : RowsJ w B T A nl cl vs ls) : (∀ k, blk A = some k → B ≤ k ∧ k < w.heap.size) ∧ ∀ v ∈ vs, ∀ A n c, v = .slice A n c → ∀ k, blk A = some k → k < w.heap.size :=
  ⟨fun k hk => own_blk_le h.own hk, fun v hv A n c e k hk => by
    obtain ⟨i, hi, he⟩ := List.mem_iff_getElem.1 hv
    obtain ⟨A', n', c', h1, _, _, _, h5⟩ := h.rows.2 i v (ls[i]'(by rw [← h.rows.1]; exact hi)) (by rw [List.getElem?_eq_getElem hi, he]) (List.getElem?_eq_getElem _)
    rw [e] at h1
    injection h1 with h1
    subst h1
    exact h5 k hk⟩
theorem RowsJ.chg (h : RowsJ w B T A nl cl vs ls) (hc : Chg T w w') : RowsJ w' B T A nl cl vs ls :=
  ⟨own_chg h.own hc h.apart.1, h.rows.chg hc h.apart.2, h.up, h.apart⟩
theorem RowsJ.sub (h : RowsJ w B T A nl cl vs ls) {T' : Nat → Prop} (ht : ∀ k, B ≤ k → k < w.heap.size → T' k → T k) : RowsJ w B T' A nl cl vs ls :=
  ⟨h.own, h.rows, h.up, fun k hk hT => h.apart.1 k hk (ht k (h.blt.1 k hk).1 (h.blt.1 k hk).2 hT), fun v hv A n c e k hk hT => h.apart.2 v hv A n c e k hk (ht k (h.up v hv A n c e k hk) (h.blt.2 v hv A n c e k hk) hT)⟩
theorem RowsJ.did {g m : Nat} {V V' : Nat → Value} (h : RowsJ w B (ownD g m V) A nl cl vs ls) (hd : Did w w' g m V V') : RowsJ w' B (ownD g m V') A nl cl vs ls := by
  have h2 := h.sub (T' := ownD g m V') (fun k hB hk hT => by
    rcases hd.own k hT with h1 | h1
    · exact h1
    · omega)
  have h3 := h.chg hd.chg
  exact ⟨h3.own, h3.rows, h3.up, h2.apart⟩
theorem RowsJ.new (h : RowsJ w B T A nl cl vs ls) (hn : New w w') : RowsJ w' B T A nl cl vs ls :=
  ⟨own_chg h.own hn (fun _ _ hf => hf), h.rows.new hn, h.up, h.apart⟩
end
/-- What Open gives back. -/
def OpenV (w w' : World) (g m : Nat) (V : Nat → Value) (s : S) (file : Int) (e : Ending) : Prop :=
  ∃ p A nl cl vs V', e = .returned (.tuple #[p, .slice A nl cl, .int .i64 (openJ s file).2.1]) ∧ DI w' g m V' (openJ s file).1 ∧ Did w w' g m V V' ∧
    (((openJ s file).2.1 = 0 ∧ ∃ gl, p = .pointer (some ⟨gl, 0, none⟩) ∧ w.heap.size ≤ gl ∧ ¬ ownD g m V' gl ∧ Blk w' gl 109 (lgCells g ⟨file, (openJ s file).2.2.length, false⟩) ∧ RowsJ w' w.heap.size (fun k => ownD g m V' k ∨ k = gl) A nl cl vs (openJ s file).2.2) ∨
     ((openJ s file).2.1 ≠ 0 ∧ p = .pointer none ∧ RowsJ w' w.heap.size (ownD g m V') A nl cl vs (openJ s file).2.2))
theorem open_e1 {s : S} {file e : Int} (h : (read s file).2 = e) (he : e ≠ 0) : openJ s file = (s, e, []) := by
  unfold openJ
  rw [if_neg (by rw [h]; exact he), h]
theorem open_e2 {s s1 : S} {file e : Int} {b : List UInt8} (h : read s file = (b, 0)) (h1 : openT s file b = (s1, e)) (he : e ≠ 0) : openJ s file = (s1, e, []) := by
  unfold openJ
  rw [h, if_pos rfl]
  dsimp only
  rw [h1, if_neg he]
theorem open_e3 {s s1 s2 : S} {file e : Int} {b : List UInt8} (h : read s file = (b, 0)) (h1 : openT s file b = (s1, 0)) (h2 : sync s1 = (s2, e)) (he : e ≠ 0) : openJ s file = (s2, e, []) := by
  unfold openJ
  rw [h, if_pos rfl]
  dsimp only
  rw [h1, if_pos rfl]
  dsimp only
  rw [h2, if_neg he]
theorem open_e4 {s s1 s2 : S} {file : Int} {b : List UInt8} (h : read s file = (b, 0)) (h1 : openT s file b = (s1, 0)) (h2 : sync s1 = (s2, 0)) : openJ s file = (s2, 0, scanC b 0) := by
  unfold openJ
  rw [h, if_pos rfl]
  dsimp only
  rw [h1, if_pos rfl]
  dsimp only
  rw [h2, if_pos rfl]

theorem open_fin {w w1 w2 w4 W : World} {g m cl : Nat} {V V' : Nat → Value} {s s' : S} {file : Int} {Al : Option Addr} {vs : List Value} {L : List (List UInt8)} (hd : DI w g m V s) (hn1 : New w w1) (h1 : w2.ownsRow w1.heap.size 33 1 (.slice Al L.length cl) L.length vs) (h2 : Lists w2 vs L) (h3 : Above w1.heap.size vs) (hn2 : New w1 w2) (hdid : Did w2 w4 g m V V') (hdi : DI w4 g m V' s')
    (hW : W = w4.alloc (.cells (lgCells g ⟨file, L.length, false⟩) 109)) : DI W g m V' s' ∧ Did w W g m V V' ∧
    ∃ gl, Value.pointer (some ⟨w4.heap.size, 0, none⟩) = .pointer (some ⟨gl, 0, none⟩) ∧ w.heap.size ≤ gl ∧ ¬ ownD g m V' gl ∧ Blk W gl 109 (lgCells g ⟨file, L.length, false⟩) ∧ RowsJ W w.heap.size (fun k => ownD g m V' k ∨ k = gl) Al L.length cl vs L := by
  have hnw : New w4 W := by rw [hW]; exact (Chg.refl _ w4).alloc _
  have hs1 := hn1.size
  have hs2 := hn2.size
  have hs4 := hdid.chg.size
  have hlt : ∀ k, ownD g m V k → k < w.heap.size := fun k hk => hd.lt hk
  have r2 : RowsJ w2 w.heap.size (ownD g m V) Al L.length cl vs L := by
    refine ⟨own_base h1 hs1, h2, fun v hv A n c e k hk => Nat.le_trans hs1 (h3 v hv A n c e k hk), fun k hk ho => ?_, fun v hv A n c e k hk ho => ?_⟩
    · have q1 := (own_blk_le h1 hk).1
      have q2 := hlt k ho
      omega
    · have q1 := h3 v hv A n c e k hk
      have q2 := hlt k ho
      omega
  have r4 := r2.did hdid
  refine ⟨hdi.new hnw, (Did.of_new hn1).trans ((Did.of_new hn2).trans (hdid.trans (Did.of_new hnw))), w4.heap.size, rfl, by omega, fun ho => by have := hdi.lt ho; omega, by rw [hW]; exact Blk.new _ _ _, ?_⟩
  have b4 := r4.blt
  have r5 : RowsJ w4 w.heap.size (fun k => ownD g m V' k ∨ k = w4.heap.size) Al L.length cl vs L := r4.sub (fun k _ hk hT => by
    rcases hT with h | h
    · exact h
    · omega)
  exact r5.new hnw
set_option maxHeartbeats 2000000 in
set_option maxRecDepth 100000 in
theorem jOpen_any (g m : Nat) (V : Nat → Value) (s : S) (w : World) (h : DI w g m V s) (file : Int) :
    Calls Tryz.prog 26 #[.pointer (some ⟨g, 0, none⟩), .int .i64 file] w fun e w' => OpenV w w' g m V s file e := by
  have HH := Lib.hid h
  obtain ⟨b, e0, hr⟩ : ∃ b e0, read s file = (b, e0) := ⟨_, _, rfl⟩
  have hbl : b.length ≤ 16777216 := by
    have : b = (read s file).1 := by rw [hr]
    rw [this]
    unfold Dk.read
    split
    · simp
    · split
      · simp
      · exact h.wf.len _
  clear h
  by_cases he0 : e0 = 0
  case neg =>
    have HR := Lib.hid hr
    unfold OpenV
    rw [open_e1 (e := e0) (by rw [hr]) he0]
    clear hr
    go_enter Tryz.func26, Tryz.ntmps26
    go_wp2_with (go_at_call 16; refine (dRead_any g m V s _ HH.out file).mono ?_; rw [HR.out]; rintro e w1 ⟨A1, c1, rfl, hown1, hn1⟩; have H1 := Lib.hid (And.intro hown1 hn1); clear hown1 hn1)
    go_ret3
    exact ⟨_, none, 0, 0, [], V, rfl, HH.out.new H1.out.2, Did.of_new H1.out.2, .inr ⟨he0, rfl, RowsJ.nil _ _ _⟩⟩
  subst he0
  obtain ⟨L, hL⟩ : ∃ L, scanC b 0 = L := ⟨_, rfl⟩
  obtain ⟨N, hN⟩ : ∃ N, (framesP 0 L).length = N := ⟨_, rfl⟩
  obtain ⟨s1, e1, h1⟩ : ∃ s1 e1, openT s file b = (s1, e1) := ⟨_, _, rfl⟩
  obtain ⟨s2, e2, h2⟩ : ∃ s2 e2, sync s1 = (s2, e2) := ⟨_, _, rfl⟩
  have HR := Lib.hid hr
  have HL := Lib.hid hL
  have HN := Lib.hid hN
  have HBL := Lib.hid hbl
  obtain ⟨n, hn⟩ : ∃ n, b.length = n := ⟨_, rfl⟩
  have HNn := Lib.hid hn
  have H2 := Lib.hid h2
  have hnl : (L.length : Int) ≤ 16777216 := by
    have q1 := framesP_len L 0
    have q2 := (frames_scan _ b 0 (Nat.le_refl _)).2
    rw [hL] at q2
    omega
  by_cases hlt : N < n
  · -- loose bytes behind the records
    have ht : truncate s file (N : Int) = (s1, e1) := by
      rw [← h1]
      unfold openT
      rw [hL, hN, hn, if_pos hlt]
    have HT := Lib.hid ht
    have H1 := Lib.hid h1
    have hlt' : (N : Int) < (n : Int) := by omega
    by_cases he1 : e1 = 0
    case neg =>
      unfold OpenV
      rw [open_e2 hr h1 he1]
      clear hr hL hN hn ht h1 h2 hbl
      go_enter Tryz.func26, Tryz.ntmps26
      go_wp2_with (first
        | (go_at_call 16; refine (dRead_any g m V s _ HH.out file).mono ?_; rw [HR.out]; rintro e w1 ⟨A1, c1, rfl, hown1, hn1⟩; rw [HNn.out] at hown1 ⊢; have HA1 := Lib.hid (And.intro hown1 hn1); clear hown1 hn1)
        | (go_at_call 58; refine (scan_new A1 n c1 b w1 (Rd.of_own HA1.out.1) (by have := HBL.out; have := HNn.out; omega) (own_cap HA1.out.1).1 (own_cap HA1.out.1).2 (fun k hk => (own_blk_le HA1.out.1 hk).2)).mono ?_; rw [HL.out, HN.out]; rintro e w2 ⟨Al, nl, cl, vs, rfl, hown2, hls2, hab2, hn2⟩; have enl := (Rd.of_own hown2).len; rw [hls2.1] at enl; subst enl; have HA2 := Lib.hid (And.intro hown2 (And.intro hls2 (And.intro hab2 hn2))); clear hown2 hls2 hab2 hn2)
        | (go_at_call 59; refine (dTruncate_any g m V s _ ((HH.out.new HA1.out.2).new HA2.out.2.2.2) file (N : Int)).mono ?_; rw [HT.out]; rintro e w3 ⟨rfl, V3, hdi3, hd3⟩; have HA3 := Lib.hid (And.intro hdi3 hd3); clear hdi3 hd3))
      go_ret3
      exact ⟨_, none, 0, 0, [], V3, rfl, HA3.out.1, (Did.of_new HA1.out.2).trans ((Did.of_new HA2.out.2.2.2).trans HA3.out.2), .inr ⟨he1, rfl, RowsJ.nil _ _ _⟩⟩
    subst he1
    by_cases he2 : e2 = 0
    case neg =>
      unfold OpenV
      rw [open_e3 hr h1 h2 he2]
      clear hr hL hN hn ht h1 h2 hbl
      go_enter Tryz.func26, Tryz.ntmps26
      go_wp2_with (first
        | (go_at_call 16; refine (dRead_any g m V s _ HH.out file).mono ?_; rw [HR.out]; rintro e w1 ⟨A1, c1, rfl, hown1, hn1⟩; rw [HNn.out] at hown1 ⊢; have HA1 := Lib.hid (And.intro hown1 hn1); clear hown1 hn1)
        | (go_at_call 58; refine (scan_new A1 n c1 b w1 (Rd.of_own HA1.out.1) (by have := HBL.out; have := HNn.out; omega) (own_cap HA1.out.1).1 (own_cap HA1.out.1).2 (fun k hk => (own_blk_le HA1.out.1 hk).2)).mono ?_; rw [HL.out, HN.out]; rintro e w2 ⟨Al, nl, cl, vs, rfl, hown2, hls2, hab2, hn2⟩; have enl := (Rd.of_own hown2).len; rw [hls2.1] at enl; subst enl; have HA2 := Lib.hid (And.intro hown2 (And.intro hls2 (And.intro hab2 hn2))); clear hown2 hls2 hab2 hn2)
        | (go_at_call 59; refine (dTruncate_any g m V s _ ((HH.out.new HA1.out.2).new HA2.out.2.2.2) file (N : Int)).mono ?_; rw [HT.out]; rintro e w3 ⟨rfl, V3, hdi3, hd3⟩; have HA3 := Lib.hid (And.intro hdi3 hd3); clear hdi3 hd3)
        | (go_at_call 13; refine (dSync_any g m V3 s1 _ HA3.out.1).mono ?_; rw [H2.out]; rintro e w4 ⟨rfl, hdi4, hd4⟩; have HA4 := Lib.hid (And.intro hdi4 hd4); clear hdi4 hd4))
      go_ret3
      exact ⟨_, none, 0, 0, [], V3, rfl, HA4.out.1, (Did.of_new HA1.out.2).trans ((Did.of_new HA2.out.2.2.2).trans (HA3.out.2.trans HA4.out.2)), .inr ⟨he2, rfl, RowsJ.nil _ _ _⟩⟩
    subst he2
    unfold OpenV
    rw [open_e4 hr h1 h2, hL]
    clear hr hL hN hn ht h1 h2 hbl
    go_enter Tryz.func26, Tryz.ntmps26
    go_wp2_with (first
      | (go_at_call 16; refine (dRead_any g m V s _ HH.out file).mono ?_; rw [HR.out]; rintro e w1 ⟨A1, c1, rfl, hown1, hn1⟩; rw [HNn.out] at hown1 ⊢; have HA1 := Lib.hid (And.intro hown1 hn1); clear hown1 hn1)
      | (go_at_call 58; refine (scan_new A1 n c1 b w1 (Rd.of_own HA1.out.1) (by have := HBL.out; have := HNn.out; omega) (own_cap HA1.out.1).1 (own_cap HA1.out.1).2 (fun k hk => (own_blk_le HA1.out.1 hk).2)).mono ?_; rw [HL.out, HN.out]; rintro e w2 ⟨Al, nl, cl, vs, rfl, hown2, hls2, hab2, hn2⟩; have enl := (Rd.of_own hown2).len; rw [hls2.1] at enl; subst enl; have HA2 := Lib.hid (And.intro hown2 (And.intro hls2 (And.intro hab2 hn2))); clear hown2 hls2 hab2 hn2)
      | (go_at_call 59; refine (dTruncate_any g m V s _ ((HH.out.new HA1.out.2).new HA2.out.2.2.2) file (N : Int)).mono ?_; rw [HT.out]; rintro e w3 ⟨rfl, V3, hdi3, hd3⟩; have HA3 := Lib.hid (And.intro hdi3 hd3); clear hdi3 hd3)
      | (go_at_call 13; refine (dSync_any g m V3 s1 _ HA3.out.1).mono ?_; rw [H2.out]; rintro e w4 ⟨rfl, hdi4, hd4⟩; have HA4 := Lib.hid (And.intro hdi4 hd4); clear hdi4 hd4))
    go_ret3
    obtain ⟨q1, q2, q3⟩ := open_fin (file := file) HH.out HA1.out.2 HA2.out.1 HA2.out.2.1 HA2.out.2.2.1 HA2.out.2.2.2 (HA3.out.2.trans HA4.out.2) HA4.out.1 rfl
    exact ⟨_, Al, L.length, cl, vs, V3, rfl, q1, q2, .inl ⟨trivial, q3⟩⟩
  · have ht : openT s file b = (s, 0) := by
      unfold openT
      rw [hL, hN, hn, if_neg hlt]
    rw [ht] at h1
    obtain ⟨rfl, rfl⟩ : s = s1 ∧ 0 = e1 := by injection h1 with q1 q2; exact ⟨q1, q2⟩
    have hge : (n : Int) ≤ (N : Int) := by omega
    by_cases he2 : e2 = 0
    case neg =>
      unfold OpenV
      rw [open_e3 hr ht h2 he2]
      clear hr hL hN hn ht h1 h2 hbl
      go_enter Tryz.func26, Tryz.ntmps26
      go_wp2_with (first
        | (go_at_call 16; refine (dRead_any g m V s _ HH.out file).mono ?_; rw [HR.out]; rintro e w1 ⟨A1, c1, rfl, hown1, hn1⟩; rw [HNn.out] at hown1 ⊢; have HA1 := Lib.hid (And.intro hown1 hn1); clear hown1 hn1)
        | (go_at_call 58; refine (scan_new A1 n c1 b w1 (Rd.of_own HA1.out.1) (by have := HBL.out; have := HNn.out; omega) (own_cap HA1.out.1).1 (own_cap HA1.out.1).2 (fun k hk => (own_blk_le HA1.out.1 hk).2)).mono ?_; rw [HL.out, HN.out]; rintro e w2 ⟨Al, nl, cl, vs, rfl, hown2, hls2, hab2, hn2⟩; have enl := (Rd.of_own hown2).len; rw [hls2.1] at enl; subst enl; have HA2 := Lib.hid (And.intro hown2 (And.intro hls2 (And.intro hab2 hn2))); clear hown2 hls2 hab2 hn2)
        | (go_at_call 13; refine (dSync_any g m V s _ ((HH.out.new HA1.out.2).new HA2.out.2.2.2)).mono ?_; rw [H2.out]; rintro e w4 ⟨rfl, hdi4, hd4⟩; have HA4 := Lib.hid (And.intro hdi4 hd4); clear hdi4 hd4))
      go_ret3
      exact ⟨_, none, 0, 0, [], V, rfl, HA4.out.1, (Did.of_new HA1.out.2).trans ((Did.of_new HA2.out.2.2.2).trans HA4.out.2), .inr ⟨he2, rfl, RowsJ.nil _ _ _⟩⟩
    subst he2
    unfold OpenV
    rw [open_e4 hr ht h2, hL]
    clear hr hL hN hn ht h1 h2 hbl
    go_enter Tryz.func26, Tryz.ntmps26
    go_wp2_with (first
      | (go_at_call 16; refine (dRead_any g m V s _ HH.out file).mono ?_; rw [HR.out]; rintro e w1 ⟨A1, c1, rfl, hown1, hn1⟩; rw [HNn.out] at hown1 ⊢; have HA1 := Lib.hid (And.intro hown1 hn1); clear hown1 hn1)
      | (go_at_call 58; refine (scan_new A1 n c1 b w1 (Rd.of_own HA1.out.1) (by have := HBL.out; have := HNn.out; omega) (own_cap HA1.out.1).1 (own_cap HA1.out.1).2 (fun k hk => (own_blk_le HA1.out.1 hk).2)).mono ?_; rw [HL.out, HN.out]; rintro e w2 ⟨Al, nl, cl, vs, rfl, hown2, hls2, hab2, hn2⟩; have enl := (Rd.of_own hown2).len; rw [hls2.1] at enl; subst enl; have HA2 := Lib.hid (And.intro hown2 (And.intro hls2 (And.intro hab2 hn2))); clear hown2 hls2 hab2 hn2)
      | (go_at_call 13; refine (dSync_any g m V s _ ((HH.out.new HA1.out.2).new HA2.out.2.2.2)).mono ?_; rw [H2.out]; rintro e w4 ⟨rfl, hdi4, hd4⟩; have HA4 := Lib.hid (And.intro hdi4 hd4); clear hdi4 hd4))
    go_ret3
    obtain ⟨q1, q2, q3⟩ := open_fin (file := file) HH.out HA1.out.2 HA2.out.1 HA2.out.2.1 HA2.out.2.2.1 HA2.out.2.2.2 HA4.out.2 HA4.out.1 rfl
    exact ⟨_, Al, L.length, cl, vs, V, rfl, q1, q2, .inl ⟨trivial, q3⟩⟩
end Go.Proofs.YtblcaeoeeepajaaGreatDoor

namespace Go.Proofs.YtblcaeoeeepajaaGreatDoor
set_option linter.unusedVariables false
open Go.RowKit Go.Mem Go.Dk Go.Pure Go.Jn


/-- The deferred closure: the error 24 turns the log off. -/
theorem jShut_24 (Be Bl gl g : Nat) (l : Lg) (u : FrameMode) (w : World) (he : w.cell? ⟨Be, 0, none⟩ = some (.int .i64 24)) (hl : w.cell? ⟨Bl, 0, none⟩ = some (.pointer (some ⟨gl, 0, none⟩))) (hb : Blk w gl 109 (lgCells g l)) :
    CallsD Tryz.prog 60 #[.pointer (some ⟨Be, 0, none⟩), .pointer (some ⟨Bl, 0, none⟩)] u w fun e u' w' => u' = u ∧ (e = .returned (.tuple #[]) ∧ w' = w.setCell ⟨gl, 3, none⟩ (.bool true)) := by
  have hc := hb.cell 3 (u := .bool l.down) rfl
  have hf := hb.frozen 3
  have hg := hb.lt
  go_enter_d Tryz.func60, Tryz.ntmps60
  go_wp2
  go_end0
  exact ⟨rfl, rfl⟩
theorem jShut_no (Be Bl : Nat) (z : Int) (hz : z ≠ 24) (u : FrameMode) (w : World) (he : w.cell? ⟨Be, 0, none⟩ = some (.int .i64 z)) :
    CallsD Tryz.prog 60 #[.pointer (some ⟨Be, 0, none⟩), .pointer (some ⟨Bl, 0, none⟩)] u w fun e u' w' => u' = u ∧ (e = .returned (.tuple #[]) ∧ w' = w) := by
  go_enter_d Tryz.func60, Tryz.ntmps60
  go_wp2
  go_end0
  exact ⟨rfl, rfl⟩
end Go.Proofs.YtblcaeoeeepajaaGreatDoor

namespace Go.Proofs.YtblcaeoeeepajaaGreatDoor
set_option linter.unusedVariables false
open Go.RowKit Go.Mem Go.Dk Go.Pure Go.Jn

/-- What Append leaves. -/
def AppV (w w' : World) (g m gl : Nat) (V : Nat → Value) (r : S × Lg × Int) (e : Ending) : Prop :=
  e = .returned (.int .i64 r.2.2) ∧ ∃ V', DI w' g m V' r.1 ∧ Blk w' gl 109 (lgCells g r.2.1) ∧ Chg (fun k => ownD g m V k ∨ k = gl) w w' ∧ ∀ k, ownD g m V' k → ownD g m V k ∨ w.heap.size ≤ k
theorem AppV.same {w w' : World} {g m gl : Nat} {V : Nat → Value} {s : S} {l : Lg} {cd : Int} {e : Ending} (h : DI w g m V s) (hl : Blk w gl 109 (lgCells g l)) (he : e = .returned (.int .i64 cd)) (hn : New w w') : AppV w w' g m gl V (s, l, cd) e :=
  ⟨he, V, h.new hn, hl.chg hn (fun h => h), hn.mono (fun _ _ hf => hf.elim), fun k hk => .inl hk⟩

theorem results_cell1 {fn : Func} {p : Tmp} {ty : TypeId} {g : Nat} {v : Value} {P : Program} {w : World} (h : fn.results = #[.cell p ty]) (tmps : Array Value) (hp : tmps.getD p undef = .pointer (some ⟨g, 0, none⟩)) (hl : (loadVar ty ⟨g, 0, none⟩).run P w = .ok v w) : (results fn tmps).run P w = .ok v w := by
  have hp' : tmps[p]?.getD undef = .pointer (some ⟨g, 0, none⟩) := by simpa using hp
  simp [results, h, hp', asAddr, hl]
theorem load_errno {w : World} {g : Nat} {v : Value} (h : Blk w g 24 #[v]) : (loadVar 24 ⟨g, 0, none⟩).run Tryz.prog w = .ok v w := by
  have hc := h.cell 0 (u := v) rfl
  have hu := Tryz.underlying24
  simp [loadVar, isAgg, run_underlying hu, hc]
/-- Behind the deferred closure. -/
theorem app_door {w' : World} {g gl Bl Be : Nat} {l : Lg} {cd : Int} {tmps : Array Value} {R : Ending → World → Prop} (hl : Blk w' gl 109 (lgCells g l)) (hbl : Blk w' Bl 56 #[.pointer (some ⟨gl, 0, none⟩)]) (hbe : Blk w' Be 24 #[.int .i64 cd]) (hne : Be ≠ gl)
    (ht : tmps.getD 4 undef = .pointer (some ⟨Be, 0, none⟩))
    (h : ∀ w2, Chg (fun k => k = gl) w' w2 → Blk w2 gl 109 (lgCells g { l with down := if cd = 24 then true else l.down }) → R (.returned (.int .i64 cd)) w2) :
    Leaves Tryz.prog Tryz.f28 tmps R [{ target := Target.fn (Fn.func 60) #[.pointer (some ⟨Be, 0, none⟩), .pointer (some ⟨Bl, 0, none⟩)], args := #[] }] .returning w' := by
  refine leaves_cons (f := 60) (args := #[.pointer (some ⟨Be, 0, none⟩), .pointer (some ⟨Bl, 0, none⟩)]) (by simp) (by simp [go_sem]) ?_
  by_cases hc : cd = 24
  · subst hc
    refine (jShut_24 Be Bl gl g l .returning w' (hbe.cell 0 rfl) (hbl.cell 0 rfl) hl).mono ?_
    rintro e u' w2 ⟨rfl, rfl, rfl⟩
    have hch : Chg (fun k => k = gl) w' (w'.setCell ⟨gl, 3, none⟩ (.bool true)) := (Chg.refl (fun k => k = gl) w').setCell (p := ⟨gl, 3, none⟩) (fun _ => rfl) (.bool true)
    refine ⟨_, results_cell1 rfl _ ht (load_errno (hbe.chg hch hne)), h _ hch ?_⟩
    have := hl.set_ 3 (.bool true)
    simpa [lgCells] using this
  · refine (jShut_no Be Bl cd hc .returning w' (hbe.cell 0 rfl)).mono ?_
    rintro e u' w2 ⟨rfl, rfl, rfl⟩
    refine ⟨_, results_cell1 rfl _ ht (load_errno hbe), h _ (Chg.refl _ _) ?_⟩
    rw [if_neg hc]
    exact hl

theorem app_fin {w w0 w5 w6 w2 : World} {g m gl : Nat} {V V6 : Nat → Value} {s s1 : S} {l' : Lg} {cd : Int} (hd : DI w g m V s) (hlt : gl < w.heap.size) (hno : ¬ ownD g m V gl) (hn0 : New w w0) (hz : w.heap.size + 1 < w0.heap.size) (hn5 : New w0 w5) (hdid : Did w5 w6 g m V V6) (hd6 : DI w6 g m V6 s1) (hc : Chg (fun k => k = w.heap.size + 1 ∨ k = gl) w6 w2) (hl : Blk w2 gl 109 (lgCells g l')) : AppV w w2 g m gl V (s1, l', cd) (.returned (.int .i64 cd)) := by
  have h5 := hn5.size
  have own6 : ∀ k, ownD g m V6 k → ownD g m V k ∨ w0.heap.size ≤ k := fun k hk => by
    rcases hdid.own k hk with h | h
    · exact .inl h
    · exact .inr (by omega)
  refine ⟨rfl, V6, hd6.chg hc (fun k hk h => ?_), hl, ?_, fun k hk => ?_⟩
  · rcases own6 k hk with h1 | h1
    · rcases h with h | h
      · have := hd.lt h1; omega
      · exact hno (h ▸ h1)
    · rcases h with h | h <;> omega
  · have c1 : Chg (fun k => ownD g m V k ∨ k = gl) w w6 := ((hn0.new hn5).mono (fun _ _ hf => hf.elim)).trans hdid.chg (fun k _ ho => .inl ho)
    exact c1.trans hc (fun k hk h => by
      rcases h with h | h
      · omega
      · exact .inr h)
  · rcases own6 k hk with h1 | h1
    · exact .inl h1
    · have := hn0.size; exact .inr (by omega)

set_option maxHeartbeats 2000000 in
set_option maxRecDepth 100000 in
theorem jAppend_any (g m : Nat) (V : Nat → Value) (s : S) (gl : Nat) (l : Lg) (w : World) (h : DI w g m V s) (hl : Blk w gl 109 (lgCells g l)) (hno : ¬ ownD g m V gl) (B : Option Addr) (nb cb : Nat) (b : List UInt8) (hb : Rd w B nb (bs b)) (hB : ∀ k, blk B = some k → k < w.heap.size) (hbl : b.length ≤ 100000000) (hs : l.size ≤ 1000000000) :
    Calls Tryz.prog 28 #[.pointer (some ⟨gl, 0, none⟩), .slice B nb cb] w fun e w' => AppV w w' g m gl V (appJ s l b) e := by
  have hnb : b.length = nb := by have := hb.len; simpa using this
  have HNB := Lib.hid hnb
  have HH := Lib.hid h
  have HL := Lib.hid hl
  have hg0 := hl.cell 0 (u := .pointer (some ⟨g, 0, none⟩)) rfl
  have hg1 := hl.cell 1 (u := .int .i64 l.file) rfl
  have hg2 := hl.cell 2 (u := .int .i64 (l.size : Int)) rfl
  have hg3 := hl.cell 3 (u := .bool l.down) rfl
  have hglt := hl.lt
  by_cases h1 : 65536 < nb
  · have h1' : (65536 : Int) < (nb : Int) := by omega
    have e : appJ s l b = (s, l, 4) := by unfold appJ; rw [if_pos (by omega)]
    rw [e]
    clear h hl hb hnb e
    go_enter_defers Tryz.func28, Tryz.ntmps28
    go_wp2
    obtain ⟨w1, hw1⟩ : ∃ w1, (w.alloc (Obj.cells #[Value.pointer (some ⟨gl, 0, none⟩)] 56)).alloc (Obj.cells #[Value.int IntKind.i64 4] 24) = w1 := ⟨_, rfl⟩
    have hn1 : New w w1 := by rw [← hw1]; exact ((Chg.refl _ w).alloc _).alloc _
    rw [hw1]
    exact ⟨_, results_cell1 (g := w.heap.size + 1) rfl _ rfl (load_errno (by rw [← hw1, ← World.size_alloc w (Obj.cells #[Value.pointer (some ⟨gl, 0, none⟩)] 56)]; exact Blk.new _ _ _)), AppV.same HH.out HL.out rfl hn1⟩
  have h1' : (nb : Int) ≤ 65536 := by omega
  cases hdn : l.down with
  | true =>
    have e : appJ s l b = (s, l, 24) := by unfold appJ; rw [if_neg (by omega), if_pos hdn]
    rw [e]
    rw [hdn] at hg3
    clear h hl hb hnb e hdn
    go_enter_defers Tryz.func28, Tryz.ntmps28
    go_wp2
    obtain ⟨w1, hw1⟩ : ∃ w1, (w.alloc (Obj.cells #[Value.pointer (some ⟨gl, 0, none⟩)] 56)).alloc (Obj.cells #[Value.int IntKind.i64 24] 24) = w1 := ⟨_, rfl⟩
    have hn1 : New w w1 := by rw [← hw1]; exact ((Chg.refl _ w).alloc _).alloc _
    rw [hw1]
    exact ⟨_, results_cell1 (g := w.heap.size + 1) rfl _ rfl (load_errno (by rw [← hw1, ← World.size_alloc w (Obj.cells #[Value.pointer (some ⟨gl, 0, none⟩)] 56)]; exact Blk.new _ _ _)), AppV.same HH.out HL.out rfl hn1⟩
  | false =>
    rw [hdn] at hg3
    obtain ⟨x, hx⟩ : ∃ x, frameP (l.size : Int) b = x := ⟨_, rfl⟩
    obtain ⟨s1, e1, h1⟩ : ∃ s1 e1, append s l.file x = (s1, e1) := ⟨_, _, rfl⟩
    have hxl : x.length ≤ 1000000000 := by
      rw [← hx]
      have := frameP_len (l.size : Int) b (by omega) (by omega) hbl
      omega
    by_cases he1 : e1 = 0
    case neg =>
      have e : appJ s l b = (s1, { l with down := decide (e1 = 24) }, e1) := by unfold appJ; rw [if_neg (by omega), if_neg (by rw [hdn]; simp), hx, h1, if_neg he1]
      rw [e]
      clear e
      have HX := Lib.hid hx
      have H1 := Lib.hid h1
      have HXL := Lib.hid hxl
      have HBL := Lib.hid hbl
      have HDN := Lib.hid hdn
      clear h hl hnb hdn hx h1 hxl hbl
      go_enter_defers Tryz.func28, Tryz.ntmps28
      have hmf : ∀ (fn : Fn) (first cap : Array Value) (w : World), (Instr.makeFunc fn first cap).run Tryz.prog w = .ok (.func fn first cap) w := fun _ _ _ _ => rfl
      go_wp2_with fail
      obtain ⟨w0, hw0⟩ : ∃ w0, (w.alloc (Obj.cells #[Value.pointer (some ⟨gl, 0, none⟩)] 56)).alloc (Obj.cells #[Value.int IntKind.i64 0] 24) = w0 := ⟨_, rfl⟩
      obtain ⟨Bl, hBl⟩ : ∃ Bl, w.heap.size = Bl := ⟨_, rfl⟩
      have hn0 : New w w0 := by rw [← hw0]; exact ((Chg.refl _ w).alloc _).alloc _
      have hb1 : Blk w0 Bl 56 #[.pointer (some ⟨gl, 0, none⟩)] := by rw [← hw0, ← hBl]; exact (Blk.new w _ _).alloc _
      have hb2 : Blk w0 (Bl + 1) 24 #[.int .i64 0] := by rw [← hw0, ← hBl, ← World.size_alloc w (Obj.cells #[Value.pointer (some ⟨gl, 0, none⟩)] 56)]; exact Blk.new _ _ _
      rw [hw0]
      rw [hBl] at hglt hB ⊢
      have hd0 := HH.out.new hn0
      have hl0 := HL.out.chg hn0 (fun h => h)
      have hlt0 : ∀ k, ownD g m V k → k < Bl := fun k hk => by have := HH.out.lt hk; omega
      have hrd0 := hb.new hn0
      have hsk : ∀ w', Chg (ownD g m V) w0 w' → w'.cell? ⟨Bl, 0, none⟩ = some (.pointer (some ⟨gl, 0, none⟩)) ∧ w'.cell? ⟨gl, 0, none⟩ = some (.pointer (some ⟨g, 0, none⟩)) ∧ w'.cell? ⟨gl, 1, none⟩ = some (.int .i64 l.file) ∧ w'.cell? ⟨gl, 2, none⟩ = some (.int .i64 (l.size : Int)) := fun w' hc => ⟨(hb1.chg hc (fun ho => by have := hlt0 _ ho; omega)).cell 0 rfl, (hl0.chg hc hno).cell 0 rfl, (hl0.chg hc hno).cell 1 rfl, (hl0.chg hc hno).cell 2 rfl⟩
      have hq0 : ∀ W', New w0 W' → Calls Tryz.prog 61 #[.int .i64 (l.size : Int), .slice B nb cb] W' fun e w' => ∃ A' c', e = .returned (.slice A' x.length c') ∧ w'.ownsRow W'.heap.size 5 1 (.slice A' x.length c') x.length (bs x) ∧ New W' w' := fun W' h => by
        have q := frame_any (l.size : Int) B nb cb b W' (by omega) (by omega) (hrd0.new h) (by have := HNB.out; have := HBL.out; omega) (fun k hk => by have h1 := hB k hk; have h2 := hn0.size; have h3 := h.size; omega)
        rw [HX.out] at q
        exact q
      have hq1 : ∀ W' A c, New w0 W' → Rd W' A x.length (bs x) → Calls Tryz.prog 12 #[.pointer (some ⟨g, 0, none⟩), .int .i64 l.file, .slice A x.length c] W' fun e w' => e = .returned (.int .i64 e1) ∧ ∃ V', DI w' g m V' s1 ∧ Did W' w' g m V V' := fun W' A c h hr => by
        have q := dAppend_any g m V s W' (hd0.new h) l.file A x.length c x hr HXL.out
        rw [H1.out] at q
        exact q
      have HQ0 := Lib.hid hq0
      have HQ1 := Lib.hid hq1
      have HSK := Lib.hid hsk
      have HLT := Lib.hid hlt0
      have HL0 := Lib.hid hl0
      have HB1 := Lib.hid hb1
      have HB2 := Lib.hid hb2
      have hN0 : Chg (ownD g m V) w0 w0 := Chg.refl _ _
      have hN1 : Chg (ownD g m V) w0 w0.drew := (Chg.refl _ _).drew
      have HNn := Lib.hid hn0
      have HZ := Lib.hid (show w.heap.size + 1 < w0.heap.size by rw [← hw0]; simp)
      obtain ⟨hs0, hs1, hs2, hs3⟩ := hsk w0 (Chg.refl _ _)
      clear hq0 hq1 hsk hlt0 hl0 hb1 hb2 hd0 hrd0 hb hB hn0 hg0 hg1 hg2 hg3
      go_region_held3 (fun w' => w'.cell? ⟨Bl, 0, none⟩ = some (.pointer (some ⟨gl, 0, none⟩)) ∧ w'.cell? ⟨gl, 0, none⟩ = some (.pointer (some ⟨g, 0, none⟩)) ∧ w'.cell? ⟨gl, 1, none⟩ = some (.int .i64 l.file) ∧ w'.cell? ⟨gl, 2, none⟩ = some (.int .i64 (l.size : Int))) (first | exact HSK.out _ (by assumption))
        (first
        | (go_at_call 61; (with_reducible refine (HQ0.out _ ?_).mono ?_); (first | exact (Chg.refl _ _).drew | exact Chg.refl _ _); rintro e w5 ⟨A5, c5, rfl, own5, new5⟩; (have HB5 : New w0 w5 := by (first | exact ((Chg.refl _ _).drew).new new5 | exact new5)); (have HC5 : Chg (ownD g m V) w0 w5 := HB5.mono (fun _ _ hf => hf.elim)))
        | (go_at_call 12; (with_reducible refine (HQ1.out _ _ _ HB5 (Rd.of_own own5)).mono ?_); rintro e w6 ⟨rfl, V6, hd6, hdid6⟩; (have HC6 : Chg (ownD g m V) w0 w6 := HC5.trans hdid6.chg (fun k hk ho => ho))))
      have hbe := HB2.out.chg HC6 (fun ho => by have := HLT.out _ ho; omega)
      have hce := hbe.cell 0 (u := .int .i64 0) rfl
      have hfe := hbe.frozen 0
      have hge := hbe.lt
      have HBE := Lib.hid hbe
      clear hbe
      go_wp2
      have hch : Chg (fun k => k = Bl + 1) w6 (w6.setCell ⟨Bl + 1, 0, none⟩ (.int .i64 e1)) := (Chg.refl (fun k => k = Bl + 1) w6).setCell (p := ⟨Bl + 1, 0, none⟩) (fun _ => rfl) (.int .i64 e1)
      change Leaves _ _ _ _ _ _ _
      refine app_door (l := l) (Be := Bl + 1) (Bl := Bl) (cd := e1) ((HL0.out.chg HC6 hno).chg hch (by omega)) ((HB1.out.chg HC6 (fun ho => by have := HLT.out _ ho; omega)).chg hch (by omega)) (by have := HBE.out.set_ 0 (.int .i64 e1); simpa using this) (by omega) rfl ?_
      intro w2 hc2 hl2
      subst hBl
      refine app_fin HH.out hglt hno HNn.out HZ.out HB5 hdid6 hd6 ((hch.mono (fun _ _ e => .inl e)).trans hc2 (fun _ _ e => .inr e)) ?_
      have ed : (if e1 = 24 then true else l.down) = decide (e1 = 24) := by rw [HDN.out]; by_cases h : e1 = 24 <;> simp [h]
      rwa [ed] at hl2
    subst he1
    obtain ⟨s2, e2, h2⟩ : ∃ s2 e2, sync s1 = (s2, e2) := ⟨_, _, rfl⟩
    have H2 := Lib.hid h2
    by_cases he2 : e2 = 0
    case neg =>
      have e : appJ s l b = (s2, { l with down := decide (e2 = 24) }, e2) := by unfold appJ; rw [if_neg (by omega), if_neg (by rw [hdn]; simp), hx, h1, if_pos rfl]; dsimp only; rw [h2, if_neg he2]
      rw [e]
      clear e h2
      have HX := Lib.hid hx
      have H1 := Lib.hid h1
      have HXL := Lib.hid hxl
      have HBL := Lib.hid hbl
      have HDN := Lib.hid hdn
      clear h hl hnb hdn hx h1 hxl hbl
      go_enter_defers Tryz.func28, Tryz.ntmps28
      have hmf : ∀ (fn : Fn) (first cap : Array Value) (w : World), (Instr.makeFunc fn first cap).run Tryz.prog w = .ok (.func fn first cap) w := fun _ _ _ _ => rfl
      go_wp2_with fail
      obtain ⟨w0, hw0⟩ : ∃ w0, (w.alloc (Obj.cells #[Value.pointer (some ⟨gl, 0, none⟩)] 56)).alloc (Obj.cells #[Value.int IntKind.i64 0] 24) = w0 := ⟨_, rfl⟩
      obtain ⟨Bl, hBl⟩ : ∃ Bl, w.heap.size = Bl := ⟨_, rfl⟩
      have hn0 : New w w0 := by rw [← hw0]; exact ((Chg.refl _ w).alloc _).alloc _
      have hb1 : Blk w0 Bl 56 #[.pointer (some ⟨gl, 0, none⟩)] := by rw [← hw0, ← hBl]; exact (Blk.new w _ _).alloc _
      have hb2 : Blk w0 (Bl + 1) 24 #[.int .i64 0] := by rw [← hw0, ← hBl, ← World.size_alloc w (Obj.cells #[Value.pointer (some ⟨gl, 0, none⟩)] 56)]; exact Blk.new _ _ _
      rw [hw0]
      rw [hBl] at hglt hB ⊢
      have hd0 := HH.out.new hn0
      have hl0 := HL.out.chg hn0 (fun h => h)
      have hlt0 : ∀ k, ownD g m V k → k < Bl := fun k hk => by have := HH.out.lt hk; omega
      have hrd0 := hb.new hn0
      have hsk : ∀ w', Chg (ownD g m V) w0 w' → w'.cell? ⟨Bl, 0, none⟩ = some (.pointer (some ⟨gl, 0, none⟩)) ∧ w'.cell? ⟨gl, 0, none⟩ = some (.pointer (some ⟨g, 0, none⟩)) ∧ w'.cell? ⟨gl, 1, none⟩ = some (.int .i64 l.file) ∧ w'.cell? ⟨gl, 2, none⟩ = some (.int .i64 (l.size : Int)) := fun w' hc => ⟨(hb1.chg hc (fun ho => by have := hlt0 _ ho; omega)).cell 0 rfl, (hl0.chg hc hno).cell 0 rfl, (hl0.chg hc hno).cell 1 rfl, (hl0.chg hc hno).cell 2 rfl⟩
      have hq0 : ∀ W', New w0 W' → Calls Tryz.prog 61 #[.int .i64 (l.size : Int), .slice B nb cb] W' fun e w' => ∃ A' c', e = .returned (.slice A' x.length c') ∧ w'.ownsRow W'.heap.size 5 1 (.slice A' x.length c') x.length (bs x) ∧ New W' w' := fun W' h => by
        have q := frame_any (l.size : Int) B nb cb b W' (by omega) (by omega) (hrd0.new h) (by have := HNB.out; have := HBL.out; omega) (fun k hk => by have h1 := hB k hk; have h2 := hn0.size; have h3 := h.size; omega)
        rw [HX.out] at q
        exact q
      have hq1 : ∀ W' A c, New w0 W' → Rd W' A x.length (bs x) → Calls Tryz.prog 12 #[.pointer (some ⟨g, 0, none⟩), .int .i64 l.file, .slice A x.length c] W' fun e w' => e = .returned (.int .i64 0) ∧ ∃ V', DI w' g m V' s1 ∧ Did W' w' g m V V' := fun W' A c h hr => by
        have q := dAppend_any g m V s W' (hd0.new h) l.file A x.length c x hr HXL.out
        rw [H1.out] at q
        exact q
      have HQ0 := Lib.hid hq0
      have HQ1 := Lib.hid hq1
      have HSK := Lib.hid hsk
      have HLT := Lib.hid hlt0
      have HL0 := Lib.hid hl0
      have HB1 := Lib.hid hb1
      have HB2 := Lib.hid hb2
      have hN0 : Chg (ownD g m V) w0 w0 := Chg.refl _ _
      have hN1 : Chg (ownD g m V) w0 w0.drew := (Chg.refl _ _).drew
      have HNn := Lib.hid hn0
      have HZ := Lib.hid (show w.heap.size + 1 < w0.heap.size by rw [← hw0]; simp)
      obtain ⟨hs0, hs1, hs2, hs3⟩ := hsk w0 (Chg.refl _ _)
      clear hq0 hq1 hsk hlt0 hl0 hb1 hb2 hd0 hrd0 hb hB hn0 hg0 hg1 hg2 hg3
      go_region_held3 (fun w' => w'.cell? ⟨Bl, 0, none⟩ = some (.pointer (some ⟨gl, 0, none⟩)) ∧ w'.cell? ⟨gl, 0, none⟩ = some (.pointer (some ⟨g, 0, none⟩)) ∧ w'.cell? ⟨gl, 1, none⟩ = some (.int .i64 l.file) ∧ w'.cell? ⟨gl, 2, none⟩ = some (.int .i64 (l.size : Int))) (first | exact HSK.out _ (by assumption))
        (first
        | (go_at_call 61; (with_reducible refine (HQ0.out _ ?_).mono ?_); (first | exact (Chg.refl _ _).drew | exact Chg.refl _ _); rintro e w5 ⟨A5, c5, rfl, own5, new5⟩; (have HB5 : New w0 w5 := by (first | exact ((Chg.refl _ _).drew).new new5 | exact new5)); (have HC5 : Chg (ownD g m V) w0 w5 := HB5.mono (fun _ _ hf => hf.elim)))
        | (go_at_call 12; (with_reducible refine (HQ1.out _ _ _ HB5 (Rd.of_own own5)).mono ?_); rintro e w6 ⟨rfl, V6, hd6, hdid6⟩; (have HC6 : Chg (ownD g m V) w0 w6 := HC5.trans hdid6.chg (fun k hk ho => ho))))
      obtain ⟨hs0, hs1, hs2, hs3⟩ := HSK.out _ HC6
      go_wp2_with (go_at_call 13; refine (dSync_any g m V6 s1 _ hd6).mono ?_; rw [H2.out]; rintro e w7 ⟨rfl, hd7, hdid7⟩; (have HC7 : Chg (ownD g m V) w0 w7 := HC5.trans (hdid6.trans hdid7).chg (fun k hk ho => ho)); have hbe := HB2.out.chg HC7 (fun ho => by have := HLT.out _ ho; omega); have hce := hbe.cell 0 (u := .int .i64 0) rfl; have hfe := hbe.frozen 0; have hge := hbe.lt; have HBE := Lib.hid hbe; clear hbe)
      have hch : Chg (fun k => k = Bl + 1) w7 (w7.setCell ⟨Bl + 1, 0, none⟩ (.int .i64 e2)) := (Chg.refl (fun k => k = Bl + 1) w7).setCell (p := ⟨Bl + 1, 0, none⟩) (fun _ => rfl) (.int .i64 e2)
      change Leaves _ _ _ _ _ _ _
      refine app_door (l := l) (Be := Bl + 1) (Bl := Bl) (cd := e2) ((HL0.out.chg HC7 hno).chg hch (by omega)) ((HB1.out.chg HC7 (fun ho => by have := HLT.out _ ho; omega)).chg hch (by omega)) (by have := HBE.out.set_ 0 (.int .i64 e2); simpa using this) (by omega) rfl ?_
      intro w2 hc2 hl2
      subst hBl
      refine app_fin HH.out hglt hno HNn.out HZ.out HB5 (hdid6.trans hdid7) hd7 ((hch.mono (fun _ _ e => .inl e)).trans hc2 (fun _ _ e => .inr e)) ?_
      have ed : (if e2 = 24 then true else l.down) = decide (e2 = 24) := by rw [HDN.out]; by_cases h : e2 = 24 <;> simp [h]
      rwa [ed] at hl2
    subst he2
    have e : appJ s l b = (s2, { l with size := l.size + 1 }, 0) := by unfold appJ; rw [if_neg (by omega), if_neg (by rw [hdn]; simp), hx, h1, if_pos rfl]; dsimp only; rw [h2, if_pos rfl]
    rw [e]
    clear e h2
    have HX := Lib.hid hx
    have H1 := Lib.hid h1
    have HXL := Lib.hid hxl
    have HBL := Lib.hid hbl
    have HDN := Lib.hid hdn
    clear h hl hnb hdn hx h1 hxl hbl
    go_enter_defers Tryz.func28, Tryz.ntmps28
    have hmf : ∀ (fn : Fn) (first cap : Array Value) (w : World), (Instr.makeFunc fn first cap).run Tryz.prog w = .ok (.func fn first cap) w := fun _ _ _ _ => rfl
    go_wp2_with fail
    obtain ⟨w0, hw0⟩ : ∃ w0, (w.alloc (Obj.cells #[Value.pointer (some ⟨gl, 0, none⟩)] 56)).alloc (Obj.cells #[Value.int IntKind.i64 0] 24) = w0 := ⟨_, rfl⟩
    obtain ⟨Bl, hBl⟩ : ∃ Bl, w.heap.size = Bl := ⟨_, rfl⟩
    have hn0 : New w w0 := by rw [← hw0]; exact ((Chg.refl _ w).alloc _).alloc _
    have hb1 : Blk w0 Bl 56 #[.pointer (some ⟨gl, 0, none⟩)] := by rw [← hw0, ← hBl]; exact (Blk.new w _ _).alloc _
    have hb2 : Blk w0 (Bl + 1) 24 #[.int .i64 0] := by rw [← hw0, ← hBl, ← World.size_alloc w (Obj.cells #[Value.pointer (some ⟨gl, 0, none⟩)] 56)]; exact Blk.new _ _ _
    rw [hw0]
    rw [hBl] at hglt hB ⊢
    have hd0 := HH.out.new hn0
    have hl0 := HL.out.chg hn0 (fun h => h)
    have hlt0 : ∀ k, ownD g m V k → k < Bl := fun k hk => by have := HH.out.lt hk; omega
    have hrd0 := hb.new hn0
    have hsk : ∀ w', Chg (ownD g m V) w0 w' → w'.cell? ⟨Bl, 0, none⟩ = some (.pointer (some ⟨gl, 0, none⟩)) ∧ w'.cell? ⟨gl, 0, none⟩ = some (.pointer (some ⟨g, 0, none⟩)) ∧ w'.cell? ⟨gl, 1, none⟩ = some (.int .i64 l.file) ∧ w'.cell? ⟨gl, 2, none⟩ = some (.int .i64 (l.size : Int)) := fun w' hc => ⟨(hb1.chg hc (fun ho => by have := hlt0 _ ho; omega)).cell 0 rfl, (hl0.chg hc hno).cell 0 rfl, (hl0.chg hc hno).cell 1 rfl, (hl0.chg hc hno).cell 2 rfl⟩
    have hq0 : ∀ W', New w0 W' → Calls Tryz.prog 61 #[.int .i64 (l.size : Int), .slice B nb cb] W' fun e w' => ∃ A' c', e = .returned (.slice A' x.length c') ∧ w'.ownsRow W'.heap.size 5 1 (.slice A' x.length c') x.length (bs x) ∧ New W' w' := fun W' h => by
      have q := frame_any (l.size : Int) B nb cb b W' (by omega) (by omega) (hrd0.new h) (by have := HNB.out; have := HBL.out; omega) (fun k hk => by have h1 := hB k hk; have h2 := hn0.size; have h3 := h.size; omega)
      rw [HX.out] at q
      exact q
    have hq1 : ∀ W' A c, New w0 W' → Rd W' A x.length (bs x) → Calls Tryz.prog 12 #[.pointer (some ⟨g, 0, none⟩), .int .i64 l.file, .slice A x.length c] W' fun e w' => e = .returned (.int .i64 0) ∧ ∃ V', DI w' g m V' s1 ∧ Did W' w' g m V V' := fun W' A c h hr => by
      have q := dAppend_any g m V s W' (hd0.new h) l.file A x.length c x hr HXL.out
      rw [H1.out] at q
      exact q
    have HQ0 := Lib.hid hq0
    have HQ1 := Lib.hid hq1
    have HSK := Lib.hid hsk
    have HLT := Lib.hid hlt0
    have HL0 := Lib.hid hl0
    have HB1 := Lib.hid hb1
    have HB2 := Lib.hid hb2
    have hN0 : Chg (ownD g m V) w0 w0 := Chg.refl _ _
    have hN1 : Chg (ownD g m V) w0 w0.drew := (Chg.refl _ _).drew
    have HNn := Lib.hid hn0
    have HZ := Lib.hid (show w.heap.size + 1 < w0.heap.size by rw [← hw0]; simp)
    obtain ⟨hs0, hs1, hs2, hs3⟩ := hsk w0 (Chg.refl _ _)
    clear hq0 hq1 hsk hlt0 hl0 hb1 hb2 hd0 hrd0 hb hB hn0 hg0 hg1 hg2 hg3
    go_region_held3 (fun w' => w'.cell? ⟨Bl, 0, none⟩ = some (.pointer (some ⟨gl, 0, none⟩)) ∧ w'.cell? ⟨gl, 0, none⟩ = some (.pointer (some ⟨g, 0, none⟩)) ∧ w'.cell? ⟨gl, 1, none⟩ = some (.int .i64 l.file) ∧ w'.cell? ⟨gl, 2, none⟩ = some (.int .i64 (l.size : Int))) (first | exact HSK.out _ (by assumption))
      (first
      | (go_at_call 61; (with_reducible refine (HQ0.out _ ?_).mono ?_); (first | exact (Chg.refl _ _).drew | exact Chg.refl _ _); rintro e w5 ⟨A5, c5, rfl, own5, new5⟩; (have HB5 : New w0 w5 := by (first | exact ((Chg.refl _ _).drew).new new5 | exact new5)); (have HC5 : Chg (ownD g m V) w0 w5 := HB5.mono (fun _ _ hf => hf.elim)))
      | (go_at_call 12; (with_reducible refine (HQ1.out _ _ _ HB5 (Rd.of_own own5)).mono ?_); rintro e w6 ⟨rfl, V6, hd6, hdid6⟩; (have HC6 : Chg (ownD g m V) w0 w6 := HC5.trans hdid6.chg (fun k hk ho => ho))))
    obtain ⟨hs0, hs1, hs2, hs3⟩ := HSK.out _ HC6
    go_wp2_with (go_at_call 13; refine (dSync_any g m V6 s1 _ hd6).mono ?_; rw [H2.out]; rintro e w7 ⟨rfl, hd7, hdid7⟩; (have HC7 : Chg (ownD g m V) w0 w7 := HC5.trans (hdid6.trans hdid7).chg (fun k hk ho => ho)); have hbe := HB2.out.chg HC7 (fun ho => by have := HLT.out _ ho; omega); have hce := hbe.cell 0 (u := .int .i64 0) rfl; have hfe := hbe.frozen 0; have hge := hbe.lt; have HBE := Lib.hid hbe; obtain ⟨hz0, hz1, hz2, hz3⟩ := HSK.out _ HC7; have hlb := HL0.out.chg HC7 hno; have hlf := hlb.frozen 2; have hll := hlb.lt; clear hbe hlb)
    have hch1 : Chg (fun k => k = gl) w7 (w7.setCell ⟨gl, 2, none⟩ (.int .i64 ((l.size : Int) + 1))) := (Chg.refl (fun k => k = gl) w7).setCell (p := ⟨gl, 2, none⟩) (fun _ => rfl) (.int .i64 ((l.size : Int) + 1))
    have hl8 : Blk (w7.setCell ⟨gl, 2, none⟩ (.int .i64 ((l.size : Int) + 1))) gl 109 (lgCells g { l with size := l.size + 1 }) := by
      have := (HL0.out.chg HC7 hno).set_ 2 (.int .i64 ((l.size : Int) + 1))
      simpa [lgCells] using this
    have hb8 : Blk (w7.setCell ⟨gl, 2, none⟩ (.int .i64 ((l.size : Int) + 1))) Bl 56 #[.pointer (some ⟨gl, 0, none⟩)] := (HB1.out.chg HC7 (fun ho => by have := HLT.out _ ho; omega)).chg hch1 (by omega)
    have he8 := HBE.out.chg hch1 (by omega)
    obtain ⟨w8, hw8⟩ : ∃ w8, w7.setCell ⟨gl, 2, none⟩ (.int .i64 ((l.size : Int) + 1)) = w8 := ⟨_, rfl⟩
    rw [hw8] at hch1 hl8 hb8 he8 ⊢
    have hch : Chg (fun k => k = Bl + 1) w8 (w8.setCell ⟨Bl + 1, 0, none⟩ (.int .i64 0)) := (Chg.refl (fun k => k = Bl + 1) w8).setCell (p := ⟨Bl + 1, 0, none⟩) (fun _ => rfl) (.int .i64 0)
    change Leaves _ _ _ _ _ _ _
    refine app_door (l := { l with size := l.size + 1 }) (Be := Bl + 1) (Bl := Bl) (cd := 0) (hl8.chg hch (by omega)) (hb8.chg hch (by omega)) (by have := he8.set_ 0 (.int .i64 0); simpa using this) (by omega) rfl ?_
    intro w2 hc2 hl2
    subst hBl
    refine app_fin HH.out hglt hno HNn.out HZ.out HB5 (hdid6.trans hdid7) hd7 (((hch1.mono (fun _ _ e => .inr e)).trans hch (fun _ _ e => .inl e)).trans hc2 (fun _ _ e => .inr e)) ?_
    rwa [if_neg (by omega)] at hl2
end Go.Proofs.YtblcaeoeeepajaaGreatDoor

namespace Go.Proofs.YtblcaeoeeepajaaGreatDoor
open Go.RowKit Go.Mem

/-- Rows of bytes; nothing is said of their room. -/
def ListsW (W : World) (vs : List Value) (ls : List (List UInt8)) : Prop :=
  vs.length = ls.length ∧ ∀ (i : Nat) (v : Value) (l : List UInt8), vs[i]? = some v → ls[i]? = some l → ∃ A n c, v = .slice A n c ∧ n ≤ maxLen ∧ Rd W A n (bs l) ∧ ∀ k, blk A = some k → k < W.heap.size
theorem ListsW.new {W W' : World} {vs : List Value} {ls : List (List UInt8)} (h : ListsW W vs ls) (hn : New W W') : ListsW W' vs ls :=
  ⟨h.1, fun i v l hv hl => by
    obtain ⟨A, n, c, h1, h2, h4, h5⟩ := h.2 i v l hv hl
    exact ⟨A, n, c, h1, h2, h4.new hn, fun k hk => Nat.lt_of_lt_of_le (h5 k hk) hn.size⟩⟩
theorem ListsW.of {W : World} {vs : List Value} {ls : List (List UInt8)} (h : Lists W vs ls) : ListsW W vs ls :=
  ⟨h.1, fun i v l hv hl => by
    obtain ⟨A, n, c, h1, h2, h3, h4, h5⟩ := h.2 i v l hv hl
    exact ⟨A, n, c, h1, Nat.le_trans h2 h3, h4, h5⟩⟩
theorem lists_step {a b : List (List UInt8)} {k : Nat} {x y : List UInt8} (h : a.take k = b.take k) (hx : a[k]? = some x) (hy : b[k]? = some y) (e : x = y) : a.take (k + 1) = b.take (k + 1) := by
  rw [List.take_add_one, List.take_add_one, h, hx, hy, e]

set_option maxHeartbeats 1000000 in
set_option maxRecDepth 100000 in
theorem sameLists_w (A B : Option Addr) (n m c d : Nat) (va vb : List Value) (la lb : List (List UInt8)) (w : World) (ha : Rd w A n va) (hla : ListsW w va la) (hb : Rd w B m vb) (hlb : ListsW w vb lb) (hn : n ≤ 9223372036854775807) (hm : m ≤ 9223372036854775807) :
    Calls Tryz.prog 65 #[.slice A n c, .slice B m d] w fun e w' => e = .returned (.bool (decide (la = lb))) ∧ ∃ q, w' = w.drewN q := by
  have hlen : la.length = n := by have h1 := ha.len; have h2 := hla.1; omega
  have hlen2 : lb.length = m := by have h1 := hb.len; have h2 := hlb.1; omega
  by_cases h : n = m
  · subst h
    have HA := Lib.hid hlen
    have HB := Lib.hid hlen2
    clear hlen hlen2
    go_enter Tryz.func65, Tryz.ntmps65
    go_wp2
    go_loopw [5] (fun i wr => ∃ k : Nat, k ≤ n ∧ i = .int .i64 k ∧ la.take k = lb.take k ∧ ∃ q, wr = w.drewN q) (fun i _ => n - (intOf i).toNat)
    case atStart => exact ⟨0, Nat.zero_le _, rfl, rfl, 0, rfl⟩
    case round =>
      obtain ⟨k, hk, rfl, htake, q, hq⟩ := hrel
      have HT := Lib.hid htake
      have hnew : New w wr := by rw [hq]; exact (Chg.refl _ w).drewN q
      have HQ := Lib.hid hq
      clear htake hq
      by_cases hlt : k < n
      · obtain ⟨ad, u, rfl, hu, hcu⟩ := (ha.new hnew).at_ hlt
        obtain ⟨bd, v, rfl, hv, hcv⟩ := (hb.new hnew).at_ hlt
        have hx : la[k]? = some (la[k]'(by rw [HA.out]; exact hlt)) := List.getElem?_eq_getElem _
        have hy : lb[k]? = some (lb[k]'(by rw [HB.out]; exact hlt)) := List.getElem?_eq_getElem _
        obtain ⟨x, hx⟩ : ∃ x, la[k]? = some x := ⟨_, hx⟩
        obtain ⟨y, hy⟩ : ∃ y, lb[k]? = some y := ⟨_, hy⟩
        obtain ⟨A1, n1, c1, rfl, hnc1, hr1, _⟩ := (hla.new hnew).2 k u x hu hx
        obtain ⟨A2, n2, c2, rfl, hnc2, hr2, _⟩ := (hlb.new hnew).2 k v y hv hy
        have HX := Lib.hid hx
        have HY := Lib.hid hy
        have HR1 := Lib.hid hr1
        have HR2 := Lib.hid hr2
        have hcm1' : n1 ≤ 9223372036854775807 := hnc1
        have hcm2' : n2 ≤ 9223372036854775807 := hnc2
        clear hu hv hx hy ha hb hla hlb hr1 hr2
        go_wp2
        go_quiet ((go_at_call 57; exact Calls.quiet_of (sameBytes_q A1 A2 n1 n2 c1 c2 x y _ HR1.out HR2.out hcm1' hcm2')))
        by_cases e : x = y
        · have hd : decide (x = y) = true := by simpa using e
          rw [hd]
          have HE := Lib.hid e
          clear e hd
          go_wp2
          go_roundw
          case rel => exact ⟨k + 1, by omega, by go_num, lists_step HT.out HX.out HY.out HE.out, _, by rw [HQ.out, World.drewN_drewN]⟩
          case measure => simp [intOf]; omega
        · have hd : decide (x = y) = false := by simpa using e
          rw [hd]
          have HE := Lib.hid e
          clear e hd
          go_wp2
          go_ret
          have ne : la ≠ lb := fun e => HE.out (by
            have h1 := HX.out
            rw [e, HY.out] at h1
            injection h1 with h1
            exact h1.symm)
          exact ⟨by simp [ne], _, by rw [HQ.out, World.drewN_drewN]⟩
      · go_wp2
        go_ret
        have hk' : k = n := by omega
        subst hk'
        have e : la = lb := by
          have := HT.out
          rwa [List.take_of_length_le (by rw [HA.out]; omega), List.take_of_length_le (by rw [HB.out]; omega)] at this
        exact ⟨by simp [e], _, HQ.out⟩
  · have e : la ≠ lb := fun e => h (by rw [← hlen, ← hlen2, e])
    have hd : decide (la = lb) = false := by simpa using e
    have H := Lib.hid hd
    clear hlen hlen2 hd
    go_enter Tryz.func65, Tryz.ntmps65
    go_wp2
    go_ret
    rw [H.out]
    exact ⟨by simp, 0, rfl⟩

theorem sameLists_any (A B : Option Addr) (n m c d : Nat) (va vb : List Value) (la lb : List (List UInt8)) (w : World) (ha : Rd w A n va) (hla : Lists w va la) (hb : Rd w B m vb) (hlb : Lists w vb lb) (hn : n ≤ 9223372036854775807) (hm : m ≤ 9223372036854775807) :
    Calls Tryz.prog 65 #[.slice A n c, .slice B m d] w fun e w' => e = .returned (.bool (decide (la = lb))) ∧ ∃ q, w' = w.drewN q :=
  sameLists_w A B n m c d va vb la lb w ha (.of hla) hb (.of hlb) hn hm

end Go.Proofs.YtblcaeoeeepajaaGreatDoor

namespace Go.Jn
set_option linter.unusedVariables false
open Go.Dk Go.Pure
section
variable {s : S} {F : Nat → List (List UInt8)} {i : Nat}
/-- An Append that the planned failure cuts off at its first step. -/
theorem Cal.cut (h : Cal s F) {b : List UInt8} (hi : i < 64) (hb : b.length ≤ 65536) (hr : used s + (frameP ((F i).length : Nat) b).length ≤ s.room) : ∃ s', appJ (arm s 0) ⟨i, (F i).length, false⟩ b = (s', ⟨i, (F i).length, true⟩, 24) ∧ s'.firm i = (framesP 0 (F i)).length ∧ (s'.f i).take (framesP 0 (F i)).length = framesP 0 (F i) := by
  have ha : arm s 0 = { s with plan := 0 } := by
    unfold arm
    rw [if_neg (by rw [h.on]; simp)]
    rfl
  rw [ha]
  have ea : append { s with plan := 0 } (i : Int) (frameP ((F i).length : Nat) b) = ({ put { s with plan := 0 } i (s.f i ++ frameP ((F i).length : Nat) b) (s.firm i) with plan := -1, off := true }, 24) := by
    unfold append
    rw [if_neg (by omega), if_neg (by show ¬ s.off = true; rw [h.on]; simp), if_neg (by show ¬ s.room < used s + _; omega), show (i : Int).toNat = i by omega]
    rfl
  refine ⟨{ put { s with plan := 0 } i (s.f i ++ frameP ((F i).length : Nat) b) (s.firm i) with plan := -1, off := true }, ?_, ?_, ?_⟩
  · unfold appJ
    rw [if_neg (by omega), if_neg (by simp), ea, if_neg (by simp)]
    rfl
  · show upd s.firm i (s.firm i) i = _
    rw [upd_self, h.firm, h.f]
  · show (upd s.f i _ i).take _ = _
    rw [upd_same, h.f, List.take_left' rfl]
end
end Go.Jn

namespace Go.Jn
set_option linter.unusedVariables false
open Go.Dk Go.Pure
/-- A log in the file 0 behind i Appends of the first records of X: done of them returned OK. -/
structure Dur (s : S) (X : List (List UInt8)) (i done tried : Nat) (dn : Bool) : Prop where
  room : s.room = 5000
  other : ∀ j, j ≠ 0 → s.f j = []
  le : done ≤ i
  up : dn = false → done = i ∧ tried = i ∧ s.off = false ∧ s.f 0 = framesP 0 (X.take done) ∧ s.firm 0 = (s.f 0).length
  dwn : dn = true → done < i ∧ tried = done + 1 ∧ s.f 0 = framesP 0 (X.take done) ++ frameP (done : Int) (X.getD done []) ∧ s.firm 0 = (framesP 0 (X.take done)).length
section
variable {s : S} {X : List (List UInt8)} {i done tried : Nat} {dn : Bool}
theorem frames_len (hb : ∀ b ∈ X, b.length ≤ 60) : ∀ (k : Nat), k + X.length ≤ 1000000 → (framesP k X).length ≤ 100 * X.length := by
  induction X with
  | nil => intro k _; rw [framesP_nil]; simp
  | cons r X ih =>
    intro k hk
    have e : framesP k (r :: X) = frameP (k : Int) r ++ framesP (k + 1) X := rfl
    have h1 := hb r (by simp)
    have h2 := frameP_len (k : Int) r (by omega) (by omega) (by omega)
    have h3 := ih (fun b hb' => hb b (by simp [hb'])) (k + 1) (by simp at hk; omega)
    rw [e, List.length_append, List.length_cons]
    omega
theorem used_one (h : ∀ j, j ≠ 0 → s.f j = []) : used s = (s.f 0).length := usedN_at h 64 (by omega)
theorem pstep_on (h : (Dk.pstep s).2 = false) : (Dk.pstep s).1.off = s.off := by
  unfold Dk.pstep at h ⊢
  split
  · rfl
  · split
    · rename_i h1 h2
      rw [if_neg h1, if_pos h2] at h
      cases h
    · rfl
theorem Dur.start (h : Cal s (fun _ => [])) (hr : s.room = 5000) (k : Int) : Dur (arm s k) X 0 0 0 false := by
  have hf : (arm s k).f = s.f ∧ (arm s k).firm = s.firm ∧ (arm s k).off = s.off ∧ (arm s k).room = s.room := by unfold arm; split <;> exact ⟨rfl, rfl, rfl, rfl⟩
  refine ⟨hf.2.2.2.trans hr, fun j _ => by rw [hf.1, h.f, framesP_nil], Nat.le_refl _, fun _ => ⟨rfl, rfl, hf.2.2.1.trans h.on, by rw [hf.1, h.f]; simp [framesP_nil], by rw [hf.2.1, hf.1]; exact h.firm 0⟩, fun h => by cases h⟩
theorem Dur.step (h : Dur s X i i i false) (hi : i < X.length) (hX : X.length ≤ 6) (hb : ∀ b ∈ X, b.length ≤ 10) {b : List UInt8} (eb : X.getD i [] = b) :
    (∃ s', appJ s ⟨0, i, false⟩ b = (s', ⟨0, i + 1, false⟩, 0) ∧ Dur s' X (i + 1) (i + 1) (i + 1) false) ∨ (∃ s', appJ s ⟨0, i, false⟩ b = (s', ⟨0, i, true⟩, 24) ∧ Dur s' X (i + 1) i (i + 1) true) := by
  obtain ⟨_, _, ho, hf, hm⟩ := h.up rfl
  have hbl : b.length ≤ 10 := by
    subst eb
    rw [List.getD_eq_getElem?_getD, List.getElem?_eq_getElem hi]
    exact hb _ (List.getElem_mem hi)
  obtain ⟨x, hx⟩ : ∃ x, frameP (i : Int) b = x := ⟨_, rfl⟩
  have hxl : x.length ≤ 60 := by rw [← hx]; have := frameP_len (i : Int) b (by omega) (by omega) (by omega); omega
  have hfl : (s.f 0).length ≤ 600 := by
    rw [hf]
    have := frames_len (X := X.take i) (fun b hb' => by have := hb b (List.mem_of_mem_take hb'); omega) 0 (by rw [List.length_take]; omega)
    rw [List.length_take] at this
    omega
  have hus : used s = (s.f 0).length := used_one h.other
  have etk : framesP 0 (X.take (i + 1)) = framesP 0 (X.take i) ++ x := by
    rw [List.take_add_one, ← hx, ← eb, List.getD_eq_getElem?_getD, List.getElem?_eq_getElem hi]
    show framesP 0 (X.take i ++ [X[i]]) = _
    rw [framesP_snoc, List.length_take, Nat.min_eq_left (by omega), Nat.zero_add]
    rfl
  obtain ⟨s1, hs1⟩ : ∃ s1, put s 0 (s.f 0 ++ x) (s.firm 0) = s1 := ⟨_, rfl⟩
  have f1 : s1.f 0 = s.f 0 ++ x := by rw [← hs1]; exact upd_same s.f 0 _
  have m1 : s1.firm 0 = s.firm 0 := by rw [← hs1]; exact upd_same s.firm 0 _
  have o1 : s1.off = false := by rw [← hs1]; exact ho
  have r1 : s1.room = 5000 := by rw [← hs1]; exact h.room
  have t1 : ∀ j, j ≠ 0 → s1.f j = [] := fun j hj => by rw [← hs1]; show upd _ 0 _ j = _; rw [upd_other _ _ hj]; exact h.other j hj
  have ea : append s 0 x = ((Dk.pstep s1).1, if (Dk.pstep s1).2 then 24 else 0) := by
    unfold append
    rw [if_neg (by omega), if_neg (by rw [ho]; simp), if_neg (by rw [h.room, hus]; omega)]
    show ((Dk.pstep (put s 0 (s.f 0 ++ x) (s.firm 0))).1, if (Dk.pstep (put s 0 (s.f 0 ++ x) (s.firm 0))).2 = true then (24 : Int) else 0) = _
    rw [hs1]
  obtain ⟨p1, p2, p3⟩ := step_f s1
  have dead : ∀ s', s'.f = s1.f → s'.firm = s1.firm → s'.room = s1.room → Dur s' X (i + 1) i (i + 1) true := fun s' q1 q2 q3 =>
    ⟨q3.trans r1, fun j hj => by rw [q1]; exact t1 j hj, by omega, fun h => (by cases h), fun _ => ⟨by omega, rfl, by rw [q1, f1, hf, eb, hx], by rw [q2, m1, hm, hf]⟩⟩
  cases hp : (Dk.pstep s1).2 with
  | true =>
    rw [hp] at ea
    refine .inr ⟨(Dk.pstep s1).1, ?_, dead _ p1 p2 p3⟩
    unfold appJ
    rw [if_neg (by omega), if_neg (by simp), hx, ea, if_neg (by simp)]
    rfl
  | false =>
    rw [hp] at ea
    obtain ⟨s2, hs2⟩ : ∃ s2, (Dk.pstep s1).1 = s2 := ⟨_, rfl⟩
    have o2 : s2.off = false := by rw [← hs2, pstep_on hp]; exact o1
    rw [hs2] at ea p1 p2 p3
    obtain ⟨z1, z2, z3⟩ := step_f s2
    cases hp2 : (Dk.pstep s2).2 with
    | true =>
      have es := sync_down o2 hp2
      refine .inr ⟨(Dk.pstep s2).1, ?_, dead _ (z1.trans p1) (z2.trans p2) (z3.trans p3)⟩
      unfold appJ
      rw [if_neg (by omega), if_neg (by simp), hx, ea, if_pos (by simp)]
      dsimp only
      rw [es, if_neg (by simp)]
      rfl
    | false =>
      have es := sync_ok o2 hp2
      refine .inl ⟨firmAll (Dk.pstep s2).1, ?_, z3.trans (p3.trans r1), fun j hj => ?_, Nat.le_refl _, fun _ => ⟨rfl, rfl, (pstep_on hp2).trans o2, ?_, rfl⟩, fun h => (by cases h)⟩
      · unfold appJ
        rw [if_neg (by omega), if_neg (by simp), hx, ea, if_pos (by simp)]
        dsimp only
        rw [es, if_pos rfl]
      · show (Dk.pstep s2).1.f j = []
        rw [z1, p1]
        exact t1 j hj
      · show (Dk.pstep s2).1.f 0 = _
        rw [z1, p1, f1, hf, etk]
theorem Dur.rest {b : List UInt8} (h : Dur s X i done tried true) (hd : b.length ≤ 65536) : appJ s ⟨0, done, true⟩ b = (s, ⟨0, done, true⟩, 24) ∧ Dur s X (i + 1) done tried true := by
  refine ⟨app_down hd rfl, h.room, h.other, Nat.le_trans h.le (by omega), fun h => (by cases h), fun _ => ?_⟩
  obtain ⟨q1, q2, q3, q4⟩ := h.dwn rfl
  exact ⟨by omega, q2, q3, q4⟩
theorem crash_part (hw : WF s) (keep : List Int) (j : Nat) : ∃ k, k ≤ (s.f j).length - s.firm j ∧ (Dk.crash s keep (-1)).f j = (s.f j).take (s.firm j + k) := by
  have hm := hw.firm j
  have e : (Dk.crash s keep (-1)).f j = cutTo s keep (files s).length j := by
    show (turned s keep (-1)).f j = _
    unfold turned
    rw [if_neg (by omega)]
    rfl
  rw [e]
  unfold cutTo
  split
  · exact ⟨kept s keep j, kept_le s keep j, rfl⟩
  · exact ⟨(s.f j).length - s.firm j, Nat.le_refl _, by rw [List.take_of_length_le (by omega)]⟩
/-- What is read behind the crash. -/
theorem Dur.crash (h : Dur s X X.length done tried dn) (hw : WF s) (hX : X.length ≤ 6) (hb : ∀ b ∈ X, b.length ≤ 10) (keep : List Int) :
    ∃ s' G, openJ (Dk.crash s keep (-1)) 0 = (s', 0, G) ∧ done ≤ G.length ∧ G.length ≤ tried ∧ tried ≤ X.length ∧ G = X.take G.length ∧ Cal s' (upd (fun _ => []) 0 G) ∧ s'.room = 5000 ∧ used s' ≤ 600 := by
  obtain ⟨k, hk, hf⟩ := crash_part hw keep 0
  have hz : ∀ j, j ≠ 0 → (Dk.crash s keep (-1)).f j = [] := fun j hj => by
    have := crash_len s keep (-1) j
    rw [h.other j hj] at this
    exact List.eq_nil_of_length_eq_zero (by simpa using this)
  have hle := h.le
  have key : ∃ G, scanC ((Dk.crash s keep (-1)).f 0) 0 = G ∧ done ≤ G.length ∧ G.length ≤ tried ∧ tried ≤ X.length ∧ G = X.take G.length := by
    have hfr := frames_len (X := X.take done) (fun b hb' => by have := hb b (List.mem_of_mem_take hb'); omega) 0 (by rw [List.length_take]; omega)
    rw [List.length_take] at hfr
    rw [hf]
    cases dn with
    | false =>
      obtain ⟨q1, q2, _, q3, q4⟩ := h.up rfl
      rw [q4, List.take_of_length_le (by omega), q3, scan_all _ (by omega)]
      refine ⟨_, rfl, ?_, ?_, by omega, ?_⟩
      · rw [List.length_take]; omega
      · rw [List.length_take]; omega
      · rw [List.length_take, Nat.min_eq_left (by omega)]
    | true =>
      obtain ⟨q1, q2, q3, q4⟩ := h.dwn rfl
      obtain ⟨x, hx⟩ : ∃ x, X.getD done [] = x := ⟨_, rfl⟩
      have hxb : x.length ≤ 10 := by
        subst hx
        rw [List.getD_eq_getElem?_getD, List.getElem?_eq_getElem q1]
        exact hb _ (List.getElem_mem q1)
      have hfx := frameP_len (done : Int) x (by omega) (by omega) (by omega)
      rw [hx] at q3
      have hk2 : k ≤ (frameP (done : Int) x).length := by
        rw [q3, q4, List.length_append] at hk
        omega
      rw [q3, q4, List.take_length_add_append]
      have hl2 : ((frameP (done : Int) x).take k).length ≤ 60 := by rw [List.length_take]; omega
      rw [scan_frames _ _ _ (by rw [List.length_append]; omega), List.length_take, Nat.min_eq_left (by omega), Nat.zero_add, scan_part (by omega) (by omega) hk2]
      have ex : X.take (done + 1) = X.take done ++ [x] := by
        rw [List.take_add_one, ← hx, List.getD_eq_getElem?_getD, List.getElem?_eq_getElem q1]
        rfl
      split
      · refine ⟨_, rfl, ?_, ?_, by omega, ?_⟩
        · rw [← ex, List.length_take]; omega
        · rw [← ex, List.length_take]; omega
        · rw [← ex, List.length_take, Nat.min_eq_left (by omega)]
      · rw [List.append_nil]
        refine ⟨_, rfl, ?_, ?_, by omega, ?_⟩
        · rw [List.length_take]; omega
        · rw [List.length_take]; omega
        · rw [List.length_take, Nat.min_eq_left (by omega)]
  obtain ⟨G, hG, g1, g2, g3, g4⟩ := key
  obtain ⟨s', e, h1, h2, h3, h4, h5⟩ := open_on (s := Dk.crash s keep (-1)) (i := 0) (by omega) rfl (by show (-1 : Int) < 0; omega)
  rw [hG] at e h4
  have hro : (Dk.crash s keep (-1)).room = s.room := by unfold Dk.crash turned; split <;> rfl
  refine ⟨s', G, e, g1, g2, g3, g4, ⟨h1, h2, fun j => ?_, h5⟩, h3.trans (hro.trans h.room), ?_⟩
  · rw [h4]
    unfold upd
    split
    · rfl
    · rename_i hj
      rw [hz j hj, framesP_nil]
  · rw [used_one (fun j hj => by rw [h4, upd_other _ _ hj]; exact hz j hj), h4, upd_same]
    have := frames_len (X := G) (fun b hb' => by rw [g4] at hb'; have := hb b (List.mem_of_mem_take hb'); omega) 0 (by omega)
    omega
end
end Go.Jn

namespace Go.Jn
set_option linter.unusedVariables false
open Go.Dk Go.Pure
theorem used_one1 {s : S} (h : ∀ j, j ≠ 1 → s.f j = []) : used s = (s.f 1).length := usedN_at h 64 (by omega)
/-- A log in the file 1 behind i Appends of the first records of X: done of them returned OK. -/
structure Dr1 (s : S) (X : List (List UInt8)) (i done tried : Nat) (dn : Bool) : Prop where
  room : s.room = 20000
  other : ∀ j, j ≠ 1 → s.f j = []
  le : done ≤ i
  up : dn = false → done = i ∧ tried = i ∧ s.off = false ∧ s.f 1 = framesP 0 (X.take done) ∧ s.firm 1 = (s.f 1).length
  dwn : dn = true → done < i ∧ tried = done + 1 ∧ s.f 1 = framesP 0 (X.take done) ++ frameP (done : Int) (X.getD done []) ∧ s.firm 1 = (framesP 0 (X.take done)).length
section
variable {s : S} {X : List (List UInt8)} {i done tried : Nat} {dn : Bool}
theorem Dr1.start (h : Cal s (fun _ => [])) (hr : s.room = 20000) (k : Int) : Dr1 (arm s k) X 0 0 0 false := by
  have hf : (arm s k).f = s.f ∧ (arm s k).firm = s.firm ∧ (arm s k).off = s.off ∧ (arm s k).room = s.room := by unfold arm; split <;> exact ⟨rfl, rfl, rfl, rfl⟩
  refine ⟨hf.2.2.2.trans hr, fun j _ => by rw [hf.1, h.f, framesP_nil], Nat.le_refl _, fun _ => ⟨rfl, rfl, hf.2.2.1.trans h.on, by rw [hf.1, h.f]; simp [framesP_nil], by rw [hf.2.1, hf.1]; exact h.firm 1⟩, fun h => by cases h⟩
theorem Dr1.step (h : Dr1 s X i i i false) (hi : i < X.length) (hX : X.length ≤ 6) (hb : ∀ b ∈ X, b.length ≤ 31) {b : List UInt8} (eb : X.getD i [] = b) :
    (∃ s', appJ s ⟨1, i, false⟩ b = (s', ⟨1, i + 1, false⟩, 0) ∧ Dr1 s' X (i + 1) (i + 1) (i + 1) false) ∨ (∃ s', appJ s ⟨1, i, false⟩ b = (s', ⟨1, i, true⟩, 24) ∧ Dr1 s' X (i + 1) i (i + 1) true) := by
  obtain ⟨_, _, ho, hf, hm⟩ := h.up rfl
  have hbl : b.length ≤ 31 := by
    subst eb
    rw [List.getD_eq_getElem?_getD, List.getElem?_eq_getElem hi]
    exact hb _ (List.getElem_mem hi)
  obtain ⟨x, hx⟩ : ∃ x, frameP (i : Int) b = x := ⟨_, rfl⟩
  have hxl : x.length ≤ 80 := by rw [← hx]; have := frameP_len (i : Int) b (by omega) (by omega) (by omega); omega
  have hfl : (s.f 1).length ≤ 600 := by
    rw [hf]
    have := frames_len (X := X.take i) (fun b hb' => by have := hb b (List.mem_of_mem_take hb'); omega) 0 (by rw [List.length_take]; omega)
    rw [List.length_take] at this
    omega
  have hus : used s = (s.f 1).length := used_one1 h.other
  have etk : framesP 0 (X.take (i + 1)) = framesP 0 (X.take i) ++ x := by
    rw [List.take_add_one, ← hx, ← eb, List.getD_eq_getElem?_getD, List.getElem?_eq_getElem hi]
    show framesP 0 (X.take i ++ [X[i]]) = _
    rw [framesP_snoc, List.length_take, Nat.min_eq_left (by omega), Nat.zero_add]
    rfl
  obtain ⟨s1, hs1⟩ : ∃ s1, put s 1 (s.f 1 ++ x) (s.firm 1) = s1 := ⟨_, rfl⟩
  have f1 : s1.f 1 = s.f 1 ++ x := by rw [← hs1]; exact upd_same s.f 1 _
  have m1 : s1.firm 1 = s.firm 1 := by rw [← hs1]; exact upd_same s.firm 1 _
  have o1 : s1.off = false := by rw [← hs1]; exact ho
  have r1 : s1.room = 20000 := by rw [← hs1]; exact h.room
  have t1 : ∀ j, j ≠ 1 → s1.f j = [] := fun j hj => by rw [← hs1]; show upd _ 1 _ j = _; rw [upd_other _ _ hj]; exact h.other j hj
  have ea : append s 1 x = ((Dk.pstep s1).1, if (Dk.pstep s1).2 then 24 else 0) := by
    unfold append
    rw [if_neg (by omega), if_neg (by rw [ho]; simp), if_neg (by rw [h.room, hus]; omega)]
    show ((Dk.pstep (put s 1 (s.f 1 ++ x) (s.firm 1))).1, if (Dk.pstep (put s 1 (s.f 1 ++ x) (s.firm 1))).2 = true then (24 : Int) else 0) = _
    rw [hs1]
  obtain ⟨p1, p2, p3⟩ := step_f s1
  have dead : ∀ s', s'.f = s1.f → s'.firm = s1.firm → s'.room = s1.room → Dr1 s' X (i + 1) i (i + 1) true := fun s' q1 q2 q3 =>
    ⟨q3.trans r1, fun j hj => by rw [q1]; exact t1 j hj, by omega, fun h => (by cases h), fun _ => ⟨by omega, rfl, by rw [q1, f1, hf, eb, hx], by rw [q2, m1, hm, hf]⟩⟩
  cases hp : (Dk.pstep s1).2 with
  | true =>
    rw [hp] at ea
    refine .inr ⟨(Dk.pstep s1).1, ?_, dead _ p1 p2 p3⟩
    unfold appJ
    rw [if_neg (by omega), if_neg (by simp), hx, ea, if_neg (by simp)]
    rfl
  | false =>
    rw [hp] at ea
    obtain ⟨s2, hs2⟩ : ∃ s2, (Dk.pstep s1).1 = s2 := ⟨_, rfl⟩
    have o2 : s2.off = false := by rw [← hs2, pstep_on hp]; exact o1
    rw [hs2] at ea p1 p2 p3
    obtain ⟨z1, z2, z3⟩ := step_f s2
    cases hp2 : (Dk.pstep s2).2 with
    | true =>
      have es := sync_down o2 hp2
      refine .inr ⟨(Dk.pstep s2).1, ?_, dead _ (z1.trans p1) (z2.trans p2) (z3.trans p3)⟩
      unfold appJ
      rw [if_neg (by omega), if_neg (by simp), hx, ea, if_pos (by simp)]
      dsimp only
      rw [es, if_neg (by simp)]
      rfl
    | false =>
      have es := sync_ok o2 hp2
      refine .inl ⟨firmAll (Dk.pstep s2).1, ?_, z3.trans (p3.trans r1), fun j hj => ?_, Nat.le_refl _, fun _ => ⟨rfl, rfl, (pstep_on hp2).trans o2, ?_, rfl⟩, fun h => (by cases h)⟩
      · unfold appJ
        rw [if_neg (by omega), if_neg (by simp), hx, ea, if_pos (by simp)]
        dsimp only
        rw [es, if_pos rfl]
      · show (Dk.pstep s2).1.f j = []
        rw [z1, p1]
        exact t1 j hj
      · show (Dk.pstep s2).1.f 1 = _
        rw [z1, p1, f1, hf, etk]
theorem Dr1.rest {b : List UInt8} (h : Dr1 s X i done tried true) (hd : b.length ≤ 65536) : appJ s ⟨1, done, true⟩ b = (s, ⟨1, done, true⟩, 24) ∧ Dr1 s X (i + 1) done tried true := by
  refine ⟨app_down hd rfl, h.room, h.other, Nat.le_trans h.le (by omega), fun h => (by cases h), fun _ => ?_⟩
  obtain ⟨q1, q2, q3, q4⟩ := h.dwn rfl
  exact ⟨by omega, q2, q3, q4⟩
/-- What is read behind the crash. -/
theorem Dr1.crash (h : Dr1 s X X.length done tried dn) (hw : WF s) (hX : X.length ≤ 6) (hb : ∀ b ∈ X, b.length ≤ 31) (keep : List Int) :
    ∃ s' G, openJ (Dk.crash s keep (-1)) 1 = (s', 0, G) ∧ done ≤ G.length ∧ G.length ≤ tried ∧ tried ≤ X.length ∧ G = X.take G.length ∧ Cal s' (upd (fun _ => []) 1 G) ∧ s'.room = 20000 ∧ used s' ≤ 600 := by
  obtain ⟨k, hk, hf⟩ := crash_part hw keep 1
  have hz : ∀ j, j ≠ 1 → (Dk.crash s keep (-1)).f j = [] := fun j hj => by
    have := crash_len s keep (-1) j
    rw [h.other j hj] at this
    exact List.eq_nil_of_length_eq_zero (by simpa using this)
  have hle := h.le
  have key : ∃ G, scanC ((Dk.crash s keep (-1)).f 1) 0 = G ∧ done ≤ G.length ∧ G.length ≤ tried ∧ tried ≤ X.length ∧ G = X.take G.length := by
    have hfr := frames_len (X := X.take done) (fun b hb' => by have := hb b (List.mem_of_mem_take hb'); omega) 0 (by rw [List.length_take]; omega)
    rw [List.length_take] at hfr
    rw [hf]
    cases dn with
    | false =>
      obtain ⟨q1, q2, _, q3, q4⟩ := h.up rfl
      rw [q4, List.take_of_length_le (by omega), q3, scan_all _ (by omega)]
      refine ⟨_, rfl, ?_, ?_, by omega, ?_⟩
      · rw [List.length_take]; omega
      · rw [List.length_take]; omega
      · rw [List.length_take, Nat.min_eq_left (by omega)]
    | true =>
      obtain ⟨q1, q2, q3, q4⟩ := h.dwn rfl
      obtain ⟨x, hx⟩ : ∃ x, X.getD done [] = x := ⟨_, rfl⟩
      have hxb : x.length ≤ 31 := by
        subst hx
        rw [List.getD_eq_getElem?_getD, List.getElem?_eq_getElem q1]
        exact hb _ (List.getElem_mem q1)
      have hfx := frameP_len (done : Int) x (by omega) (by omega) (by omega)
      rw [hx] at q3
      have hk2 : k ≤ (frameP (done : Int) x).length := by
        rw [q3, q4, List.length_append] at hk
        omega
      rw [q3, q4, List.take_length_add_append]
      have hl2 : ((frameP (done : Int) x).take k).length ≤ 80 := by rw [List.length_take]; omega
      rw [scan_frames _ _ _ (by rw [List.length_append]; omega), List.length_take, Nat.min_eq_left (by omega), Nat.zero_add, scan_part (by omega) (by omega) hk2]
      have ex : X.take (done + 1) = X.take done ++ [x] := by
        rw [List.take_add_one, ← hx, List.getD_eq_getElem?_getD, List.getElem?_eq_getElem q1]
        rfl
      split
      · refine ⟨_, rfl, ?_, ?_, by omega, ?_⟩
        · rw [← ex, List.length_take]; omega
        · rw [← ex, List.length_take]; omega
        · rw [← ex, List.length_take, Nat.min_eq_left (by omega)]
      · rw [List.append_nil]
        refine ⟨_, rfl, ?_, ?_, by omega, ?_⟩
        · rw [List.length_take]; omega
        · rw [List.length_take]; omega
        · rw [List.length_take, Nat.min_eq_left (by omega)]
  obtain ⟨G, hG, g1, g2, g3, g4⟩ := key
  obtain ⟨s', e, h1, h2, h3, h4, h5⟩ := open_on (s := Dk.crash s keep (-1)) (i := 1) (by omega) rfl (by show (-1 : Int) < 0; omega)
  rw [hG] at e h4
  have hro : (Dk.crash s keep (-1)).room = s.room := by unfold Dk.crash turned; split <;> rfl
  refine ⟨s', G, e, g1, g2, g3, g4, ⟨h1, h2, fun j => ?_, h5⟩, h3.trans (hro.trans h.room), ?_⟩
  · rw [h4]
    unfold upd
    split
    · rfl
    · rename_i hj
      rw [hz j hj, framesP_nil]
  · rw [used_one1 (fun j hj => by rw [h4, upd_other _ _ hj]; exact hz j hj), h4, upd_same]
    have := frames_len (X := G) (fun b hb' => by rw [g4] at hb'; have := hb b (List.mem_of_mem_take hb'); omega) 0 (by omega)
    omega
theorem Dr1.few {s : S} {X : List (List UInt8)} {i done tried : Nat} {dn : Bool} (h : Dr1 s X i done tried dn) : tried ≤ done + 1 := by
  cases dn with
  | false => have := h.up rfl; omega
  | true => have := h.dwn rfl; omega
end
end Go.Jn

namespace Go.Proofs.YtblcaeoeeepajaaGreatDoor
set_option linter.unusedVariables false
open Go.RowKit Go.Mem Go.Dk Go.Pure Go.Jn

/-- The block of a log. -/
def lgB (v : Value) (k : Nat) : Prop := v = .pointer (some ⟨k, 0, none⟩)
/-- The disk at g with the log v (o), made after w. U: their blocks. -/
def JG (U : Nat → Prop) (w : World) (g : Nat) (s : S) (v : Value) (o : Option Lg) (wl : World) : Prop :=
  ∃ m V, (New w wl ∧ DI wl g m V s ∧ ∀ k, ownD g m V k → w.heap.size ≤ k) ∧ (match o with
    | none => v = .pointer none
    | some l => ∃ gl, v = .pointer (some ⟨gl, 0, none⟩) ∧ Blk wl gl 109 (lgCells g l) ∧ w.heap.size ≤ gl ∧ ¬ ownD g m V gl) ∧ U = fun k => ownD g m V k ∨ lgB v k
theorem lgB_eq {k gl : Nat} (h : lgB (.pointer (some ⟨gl, 0, none⟩)) k) : k = gl := by
  injection h with h
  injection h with h
  injection h with h
  exact h.symm
theorem lgB_none {k : Nat} (h : lgB (.pointer none) k) : False := by cases h
section
variable {w w1 w2 w' wl : World} {U U' U'' Y : Nat → Prop} {v : Value} {z : Int} {g : Nat} {s : S} {o : Option Lg} {l : Lg}
theorem JG.start (h : JD U w g s w1) : JG U w g s (.pointer none) none w1 := by
  obtain ⟨m, V, h1, rfl⟩ := h
  exact ⟨m, V, h1, rfl, funext fun k => propext ⟨.inl, fun h => h.elim (fun h => h) (fun h => (lgB_none h).elim)⟩⟩
theorem JG.was (h : JG U w g s v o w1) : New w w1 := by
  obtain ⟨m, V, h1, _⟩ := h
  exact h1.1
theorem JG.wf (h : JG U w g s v o w1) : WF s := by
  obtain ⟨m, V, h1, _⟩ := h
  exact h1.2.1.wf
theorem JG.new (h : JG U w g s v o w1) (hn : New w1 w2) : JG U w g s v o w2 := by
  obtain ⟨m, V, ⟨h1, h2, h3⟩, h4, rfl⟩ := h
  refine ⟨m, V, ⟨h1.trans hn (fun _ _ h => h), h2.new hn, h3⟩, ?_, rfl⟩
  cases o with
  | none => exact h4
  | some l =>
    obtain ⟨gl, q1, q2, q3, q4⟩ := h4
    exact ⟨gl, q1, q2.chg hn (fun h => h), q3, q4⟩
theorem JG.lt (h : JG U w g s v o w1) {k : Nat} (hk : U k) : k < w1.heap.size ∧ w.heap.size ≤ k := by
  obtain ⟨m, V, ⟨h1, h2, h3⟩, h4, rfl⟩ := h
  rcases hk with hk | hk
  · exact ⟨h2.lt hk, h3 k hk⟩
  · cases o with
    | none =>
      have h4 : v = .pointer none := h4
      subst h4
      exact (lgB_none hk).elim
    | some l =>
      obtain ⟨gl, rfl, q2, q3, q4⟩ := h4
      rw [lgB_eq hk]
      exact ⟨q2.lt, q3⟩
theorem JG.no32 (h : JG U w g s v o w1) : ∀ k, U k → No32 w1 k := fun k hk => by
  obtain ⟨m, V, ⟨h1, h2, h3⟩, h4, rfl⟩ := h
  rcases hk with hk | hk
  · exact h2.no32 k hk
  · cases o with
    | none =>
      have h4 : v = .pointer none := h4
      subst h4
      exact (lgB_none hk).elim
    | some l =>
      obtain ⟨gl, rfl, q2, q3, q4⟩ := h4
      rw [lgB_eq hk]
      exact .inl ⟨_, _, q2, fun z hz => by simp [lgCells] at hz⟩
/-- Blocks that are not its own change. -/
theorem JG.chg (h : JG U w g s v o w1) (hc : Chg Y w1 w2) (hw : ∀ k, Y k → w.heap.size ≤ k) (hY : ∀ k, U k → ¬ Y k) : JG U w g s v o w2 := by
  obtain ⟨m, V, ⟨h1, h2, h3⟩, h4, rfl⟩ := h
  refine ⟨m, V, ⟨h1.trans hc (fun k hk hy => by have := hw k hy; omega), h2.chg hc (fun k hk => hY k (.inl hk)), h3⟩, ?_, rfl⟩
  cases o with
  | none => exact h4
  | some l =>
    obtain ⟨gl, rfl, q2, q3, q4⟩ := h4
    exact ⟨gl, rfl, q2.chg hc (hY gl (.inr rfl)), q3, q4⟩
/-- The log's value. -/
theorem JG.val (h : JG U w g s v (some l) w1) : ∃ gl, v = .pointer (some ⟨gl, 0, none⟩) := by
  obtain ⟨m, V, _, ⟨gl, e, _⟩, _⟩ := h
  exact ⟨gl, e⟩
theorem jg_did {m : Nat} {V V' : Nat → Value} {s' : S} (h : New w w1 ∧ DI w1 g m V s ∧ ∀ k, ownD g m V k → w.heap.size ≤ k) (hl : match o with
    | none => v = .pointer none
    | some l => ∃ gl, v = .pointer (some ⟨gl, 0, none⟩) ∧ Blk w1 gl 109 (lgCells g l) ∧ w.heap.size ≤ gl ∧ ¬ ownD g m V gl)
    (h2 : DI w2 g m V' s') (hd : Did w1 w2 g m V V') : ∃ U', JG U' w g s' v o w2 ∧ DStep (fun k => ownD g m V k ∨ lgB v k) U' w1 w2 := by
  refine ⟨_, ⟨m, V', ⟨h.1.trans hd.chg (fun k hk ho => by have := h.2.2 k ho; omega), h2, fun k hk => ?_⟩, ?_, rfl⟩, hd.chg.mono (fun _ _ e => .inl e), fun k hk => ?_⟩
  · rcases hd.own k hk with e | e
    · exact h.2.2 k e
    · exact Nat.le_trans h.1.size e
  · cases o with
    | none => exact hl
    | some l =>
      obtain ⟨gl, rfl, q2, q3, q4⟩ := hl
      refine ⟨gl, rfl, q2.chg hd.chg q4, q3, fun ho => ?_⟩
      rcases hd.own gl ho with e | e
      · exact q4 e
      · have := q2.lt; omega
  · rcases hk with hk | hk
    · exact (hd.own k hk).imp .inl (fun e => e)
    · exact .inl (.inr hk)
theorem JG.arm (h : JG U w g s v o w1) (n : Int) (hn : -9223372036854775808 ≤ n ∧ n ≤ 9223372036854775807) : Calls Tryz.prog 27 #[.pointer (some ⟨g, 0, none⟩), .int .i64 n] w1 fun e w' => e = .returned (.tuple #[]) ∧ ∃ U', JG U' w g (Dk.arm s n) v o w' ∧ DStep U U' w1 w' := by
  obtain ⟨m, V, hz, hl, rfl⟩ := h
  refine (dArm_any g m s n hn w1 hz.2.1.core.blk).mono ?_
  rintro e w' ⟨rfl, h5, h6⟩
  have hf : (Dk.arm s n).f = s.f ∧ (Dk.arm s n).firm = s.firm := by unfold Dk.arm; split <;> exact ⟨rfl, rfl⟩
  obtain ⟨h7, h8⟩ := hz.2.1.cells hf h5 h6 (hz.2.1.wf.arm hn.2)
  exact ⟨rfl, jg_did hz hl h7 h8⟩
theorem JG.crash (h : JG U w g s v o w1) (K : Option Addr) (nk ck : Nat) (keep : List Int) (hK : Rd w1 K nk (is keep)) (hKo : ∀ k, blk K = some k → ¬ U k ∧ k < w1.heap.size) (hnk : nk ≤ 1000000000) (hkr : ∀ z ∈ keep, -9223372036854775808 ≤ z ∧ z ≤ 9223372036854775807) (flip : Int) (hfl : -9223372036854775808 ≤ flip ∧ flip ≤ 9223372036854775807) :
    Calls Tryz.prog 14 #[.pointer (some ⟨g, 0, none⟩), .slice K nk ck, .int .i64 flip] w1 fun e w' => e = .returned (.tuple #[]) ∧ ∃ U', JG U' w g (Dk.crash s keep flip) v o w' ∧ DStep U U' w1 w' := by
  obtain ⟨m, V, hz, hl, rfl⟩ := h
  refine (dCrash_any g m V s w1 hz.2.1 K nk ck keep hK (fun k hk => ⟨fun ho => (hKo k hk).1 (.inl ho), (hKo k hk).2⟩) hnk hkr flip hfl).mono ?_
  rintro e w' ⟨rfl, V', h7, h8⟩
  exact ⟨rfl, jg_did hz hl h7 h8⟩
theorem JG.append (h : JG U w g s v (some l) w1) (B : Option Addr) (nb cb : Nat) (x : List UInt8) (hb : Rd w1 B nb (bs x)) (hB : ∀ k, blk B = some k → k < w1.heap.size) (hbl : x.length ≤ 100000000) (hs : l.size ≤ 1000000000) :
    Calls Tryz.prog 28 #[v, .slice B nb cb] w1 fun e w' => e = .returned (.int .i64 (appJ s l x).2.2) ∧ ∃ U', JG U' w g (appJ s l x).1 v (some (appJ s l x).2.1) w' ∧ DStep U U' w1 w' := by
  obtain ⟨m, V, hz, ⟨gl, rfl, q1, q2, q3⟩, rfl⟩ := h
  refine (jAppend_any g m V s gl l w1 hz.2.1 q1 q3 B nb cb x hb hB hbl hs).mono ?_
  rintro e w' ⟨rfl, V', h7, h8, h9, h10⟩
  refine ⟨rfl, _, ⟨m, V', ⟨hz.1.trans h9 (fun k hk ho => ?_), h7, fun k hk => ?_⟩, ⟨gl, rfl, h8, q2, fun ho => ?_⟩, rfl⟩, h9.mono (fun k _ e => e.imp (fun e => e) (fun e => by subst e; rfl)), fun k hk => ?_⟩
  · rcases ho with ho | ho
    · have := hz.2.2 k ho; omega
    · omega
  · rcases h10 k hk with e | e
    · exact hz.2.2 k e
    · exact Nat.le_trans hz.1.size e
  · rcases h10 gl ho with e | e
    · exact q3 e
    · have := q1.lt; omega
  · rcases hk with hk | hk
    · exact (h10 k hk).imp .inl (fun e => e)
    · exact .inl (.inr hk)
/-- What an Append of the record i leaves. -/
theorem JG.japp {X : List (List UInt8)} {i done tried : Nat} {dn : Bool} (h : JG U w g s v (some ⟨1, done, dn⟩) w1) (hd : Dr1 s X i done tried dn) (hi : i < X.length) (hX : X.length ≤ 6) (hx : ∀ b ∈ X, b.length ≤ 31) {b : List UInt8} (eb : X.getD i [] = b) (B : Option Addr) (cb : Nat) (hb : Rd w1 B b.length (bs b)) (hB : ∀ k, blk B = some k → k < w1.heap.size) :
    Calls Tryz.prog 28 #[v, .slice B b.length cb] w1 fun e w' => ∃ cd, e = .returned (.int .i64 cd) ∧ ∃ U' s' done' tried' dn', JG U' w g s' v (some ⟨1, done', dn'⟩) w' ∧ Dr1 s' X (i + 1) done' tried' dn' ∧ DStep U U' w1 w' ∧ (cd = 0 ∧ done' = done + 1 ∨ cd = 24 ∧ done' = done) := by
  have hle := hd.le
  have hbl : b.length ≤ 31 := by
    subst eb
    rw [List.getD_eq_getElem?_getD, List.getElem?_eq_getElem hi]
    exact hx _ (List.getElem_mem hi)
  refine (h.append B b.length cb b hb hB (by omega) (show done ≤ 1000000000 by omega)).mono ?_
  rintro e w' ⟨rfl, U', hj, hs⟩
  cases dn with
  | false =>
    obtain ⟨rfl, rfl, _⟩ := hd.up rfl
    rcases hd.step hi hX hx eb with ⟨s', e1, e2⟩ | ⟨s', e1, e2⟩
    · rw [e1] at hj ⊢
      exact ⟨0, rfl, U', s', _, _, _, hj, e2, hs, .inl ⟨rfl, rfl⟩⟩
    · rw [e1] at hj ⊢
      exact ⟨24, rfl, U', s', _, _, _, hj, e2, hs, .inr ⟨rfl, rfl⟩⟩
  | true =>
    obtain ⟨e1, e2⟩ := hd.rest (b := b) (by omega)
    rw [e1] at hj ⊢
    exact ⟨24, rfl, U', s, _, _, _, hj, e2, hs, .inr ⟨rfl, rfl⟩⟩
/-- Rows of bytes, all in blocks below B. -/
def RrG (w : World) (B : Nat) (A : Option Addr) (n : Nat) (ls : List (List UInt8)) : Prop := ∃ vs : List Value, Rd w A n vs ∧ ls.length = n ∧ (∀ k, blk A = some k → k < B) ∧ ∀ (i : Nat) (l : List UInt8), ls[i]? = some l → ∃ A n c, vs[i]? = some (Value.slice A n c) ∧ Rd w A n (bs l) ∧ ∀ k, blk A = some k → k < B
theorem RrG.chg {A : Option Addr} {n B : Nat} {ls : List (List UInt8)} (h : RrG w1 B A n ls) (hc : Chg Y w1 w2) (hY : ∀ k, Y k → B ≤ k) : RrG w2 B A n ls := by
  obtain ⟨vs, h1, h2, h3, h4⟩ := h
  refine ⟨vs, h1.chg hc (fun k hk _ hy => by have := h3 k hk; have := hY k hy; omega), h2, h3, fun i l hl => ?_⟩
  obtain ⟨A', n', c', q0, q1, q2⟩ := h4 i l hl
  exact ⟨A', n', c', q0, q1.chg hc (fun k hk _ hy => by have := q2 k hk; have := hY k hy; omega), q2⟩
theorem RrG.new {A : Option Addr} {n B : Nat} {ls : List (List UInt8)} (h : RrG w1 B A n ls) (hn : New w1 w2) : RrG w2 B A n ls := h.chg hn (fun k h => h.elim)
theorem RrG.at_ {A : Option Addr} {n B q : Nat} {ls : List (List UInt8)} {l : List UInt8} (h : RrG w1 B A n ls) (hl : ls[q]? = some l) : ∃ ad A' c', A = some ad ∧ w1.cell? (ad.add q) = some (.slice A' l.length c') ∧ Rd w1 A' l.length (bs l) := by
  obtain ⟨vs, h1, h2, h3, h4⟩ := h
  have hq : q < n := by have := (List.getElem?_eq_some_iff.1 hl).1; omega
  obtain ⟨ad, u, rfl, hu, hc⟩ := h1.at_ hq
  obtain ⟨A', n', c', q0, q1, q2⟩ := h4 q l hl
  rw [hu] at q0
  injection q0 with q0
  subst q0
  have e : l.length = n' := by have := q1.len; simpa using this
  subst e
  exact ⟨ad, A', c', rfl, hc, q1⟩
theorem JG.open_ (h : JG U w g s v o w1) (file : Int) : Calls Tryz.prog 26 #[.pointer (some ⟨g, 0, none⟩), .int .i64 file] w1 fun e w' => ∃ p A nl cl, e = .returned (.tuple #[p, .slice A nl cl, .int .i64 (openJ s file).2.1]) ∧ (∃ U', JG U' w g (openJ s file).1 p (if (openJ s file).2.1 = 0 then some ⟨file, (openJ s file).2.2.length, false⟩ else none) w' ∧ DStep U U' w1 w') ∧ RrG w' w'.heap.size A nl (openJ s file).2.2 := by
  obtain ⟨m, V, hz, hl, rfl⟩ := h
  refine (jOpen_any g m V s w1 hz.2.1 file).mono ?_
  rintro e w' ⟨p, A, nl, cl, vs, V', rfl, h7, h8, h9⟩
  have hz1 := hz.1.size
  have hnew : New w w' := hz.1.trans h8.chg (fun k hk ho => by have := hz.2.2 k ho; omega)
  have hown : ∀ k, ownD g m V' k → w.heap.size ≤ k := fun k hk => by
    rcases h8.own k hk with e | e
    · exact hz.2.2 k e
    · exact Nat.le_trans hz.1.size e
  refine ⟨p, A, nl, cl, rfl, ?_, ?_⟩
  · refine ⟨fun k => ownD g m V' k ∨ lgB p k, ⟨m, V', ⟨hnew, h7, hown⟩, ?_, rfl⟩, h8.chg.mono (fun _ _ e => .inl e), fun k hk => ?_⟩
    · rcases h9 with ⟨h0, gl, rfl, q1, q2, q3, _⟩ | ⟨h0, rfl, _⟩
      · rw [if_pos h0]
        exact ⟨gl, rfl, q3, by omega, q2⟩
      · rw [if_neg h0]
    · rcases hk with hk | hk
      · exact (h8.own k hk).imp .inl (fun e => e)
      · rcases h9 with ⟨h0, gl, rfl, q1, q2, q3, _⟩ | ⟨h0, rfl, _⟩
        · rw [lgB_eq hk]; exact .inr q1
        · exact (lgB_none hk).elim
  · have fin : ∀ {T : Nat → Prop}, RowsJ w' w1.heap.size T A nl cl vs (openJ s file).2.2 → RrG w' w'.heap.size A nl (openJ s file).2.2 := fun hrow => by
      have hr := Rd.of_own hrow.own
      refine ⟨vs, hr, by rw [← hrow.rows.1]; exact hr.len, fun k hk => (hrow.blt.1 k hk).2, fun i l hl => ?_⟩
      obtain ⟨hi, hli⟩ := List.getElem?_eq_some_iff.1 hl
      obtain ⟨A', n', c', q1, _, _, q4, q5⟩ := hrow.rows.2 i (vs[i]'(by rw [hrow.rows.1]; exact hi)) l (List.getElem?_eq_getElem _) hl
      exact ⟨A', n', c', by rw [List.getElem?_eq_getElem (by rw [hrow.rows.1]; exact hi), q1], q4, q5⟩
    rcases h9 with ⟨h0, gl, rfl, q1, q2, q3, q4⟩ | ⟨h0, rfl, q4⟩
    · exact fin q4
    · exact fin q4
end
theorem jfresh_any (w : World) : Calls Tryz.prog 25 #[.int .i64 20000] w fun e w' => ∃ g U, e = .returned (.pointer (some ⟨g, 0, none⟩)) ∧ JD U w g (Dk.new 20000) w' := by
  go_enter Tryz.func25, Tryz.ntmps25
  go_wp2_with (go_at_call 5; refine (JD.start (w := w) 20000 (by omega) (Chg.refl _ w)).mono ?_; rintro e w' ⟨g, U, rfl, h1, h2⟩; have H := Lib.hid h1; clear h1 h2)
  go_ret
  exact ⟨g, U, rfl, H.out⟩
end Go.Proofs.YtblcaeoeeepajaaGreatDoor

namespace Go.Mem
set_option linter.unusedVariables false
open Go.RowKit
/-- The slice of n elements of two cells at the head of the block g owns its row: the elements' cells are xs; the row's cells are of the kind C. -/
def RowW (w : World) (t : TypeId) (C : Value → Prop) (g n cp : Nat) (xs : List Value) : Prop :=
  xs.length = n * 2 ∧ cp ≤ maxLen ∧ ∃ rest, cp * 2 = xs.length + rest.length ∧ Blk w g t (xs ++ rest).toArray ∧ ∀ u ∈ xs ++ rest, C u
section
variable {P : Program} {w w' : World} {t e : TypeId} {C : Value → Prop} {g n cp : Nat} {xs : List Value}
theorem RowW.chg {S : Nat → Prop} (h : RowW w t C g n cp xs) (hc : Chg S w w') (hs : ¬ S g) : RowW w' t C g n cp xs := by
  obtain ⟨h1, h2, rest, h3, h4, h5⟩ := h
  exact ⟨h1, h2, rest, h3, h4.chg hc hs, h5⟩
theorem RowW.lt (h : RowW w t C g n cp xs) : g < w.heap.size := by
  obtain ⟨h1, h2, rest, h3, h4, h5⟩ := h
  exact h4.lt
theorem RowW.kind (h : RowW w t C g n cp xs) : ∃ cs : List Value, Blk w g t cs.toArray ∧ ∀ u ∈ cs, C u := by
  obtain ⟨h1, h2, rest, h3, h4, h5⟩ := h
  exact ⟨_, h4, h5⟩
theorem RowW.cell (h : RowW w t C g n cp xs) {j : Nat} {u : Value} (hj : xs[j]? = some u) : w.cell? ⟨g, j, none⟩ = some u := by
  obtain ⟨h1, h2, rest, h3, h4, h5⟩ := h
  refine h4.cell j ?_
  have hl := (List.getElem?_eq_some_iff.1 hj).1
  simpa [List.getElem?_append_left hl] using hj
theorem zero_cells2 {z : Value} {a b : Value} (hz : z.cells = #[a, b]) (k : Nat) : (Builtin.zeroCells z.cells k).toList.length = k * 2 ∧ ∀ u ∈ (Builtin.zeroCells z.cells k).toList, u = a ∨ u = b := by
  rw [hz]
  refine ⟨by simp [Builtin.zeroCells], fun u hu => ?_⟩
  simp only [Builtin.zeroCells, Array.toList_map, List.mem_map] at hu
  obtain ⟨i, _, rfl⟩ := hu
  have h2 : i % 2 < 2 := Nat.mod_lt _ (by omega)
  rcases (show i % 2 = 0 ∨ i % 2 = 1 by omega) with h | h
  · left
    show (#[a, b] : Array Value)[i % 2]! = a
    rw [h]; rfl
  · right
    show (#[a, b] : Array Value)[i % 2]! = b
    rw [h]; rfl
/-- append of one element. -/
theorem RowW.app {z a b : Value} {bytes : Nat} (ht : P.underlying t = some (.slice e)) {i : TypeInfo} (hi : P.info? e = some i) (hz : i.zero = some z) (hsize : i.size = 2) (hby : i.bytes = bytes) (hzc : z.cells = #[a, b]) (hCa : C a) (hCb : C b) (tx ty : TypeId) (h : RowW w e C g n cp xs) (hcp : n ≤ cp) {x : Value} {u1 u2 : Value} (hs : Src P 2 tx x 1 [u1, u2] w) (h1 : C u1) (h2 : C u2)
    (h63 : n + 1 ≤ 1000000) (hbytes : (n + 1) * bytes ≤ 140737488355328) :
    ∃ g' cp' w', (Builtin.append_ #[t, tx] ty #[.slice (some ⟨g, 0, none⟩) n cp, x]).run P w = .ok (.slice (some ⟨g', 0, none⟩) (n + 1) cp') w' ∧ RowW w' e C g' (n + 1) cp' (xs ++ [u1, u2]) ∧ n + 1 ≤ cp' ∧ Chg (fun k => k = g) w w' ∧ (g' = g ∨ g' = w.heap.size) := by
  obtain ⟨hl, hm, rest, hr, hb, hC⟩ := h
  have hs' : Src P i.size tx x 1 [u1, u2] w := by rw [hsize]; exact hs
  by_cases hroom : n + 1 ≤ cp
  · have hcell : ∀ j, j < ([u1, u2] : List Value).length → (w.cell? ⟨g, 0 + n * i.size + j, none⟩).isSome = true := by
      intro j hj
      have hlt : n * i.size + j < (xs ++ rest).length := by
        rw [List.length_append, hsize]
        simp at hj
        omega
      rw [Nat.zero_add, hb.cell (n * i.size + j) (u := (xs ++ rest)[n * i.size + j]) (by simp)]
      rfl
    have hrun := run_append_room_src (P := P) w t tx ty e i ht hi g 0 n cp x 1 [u1, u2] hs' hroom hcell (fun j hj => hb.frozen _)
    obtain ⟨r1, r2, hr', hr1⟩ : ∃ r1 r2, rest = r1 ++ r2 ∧ r1.length = ([u1, u2] : List Value).length := ⟨rest.take 2, rest.drop 2, (List.take_append_drop _ _).symm, by rw [List.length_take]; simp; omega⟩
    subst hr'
    have hrow := setCells_row g e (0, 0) [u1, u2] xs r1 r2 w hr1 (by simpa [Blk, List.append_assoc] using hb)
    have hoff : 0 + n * i.size = xs.length := by rw [hsize]; omega
    rw [hoff] at hrun
    refine ⟨g, cp, _, hrun, ⟨by simp; omega, hm, r2, ?_, hrow, fun u hu => ?_⟩, hroom, setCells_chg g _ _ w, .inl rfl⟩
    · simp only [List.length_append] at hr hr1 ⊢
      omega
    · simp only [List.mem_append] at hu
      rcases hu with (hu | hu) | hu
      · exact hC u (by simp [hu])
      · simp at hu
        rcases hu with rfl | rfl
        · exact h1
        · exact h2
      · exact hC u (by simp [hu])
  · have hf : (Builtin.firstCells i.size n (.slice (some ⟨g, 0, none⟩) n cp)).run P w.drew = .ok xs.toArray w.drew :=
      run_firstCells_some (P := P) w.drew i.size n ⟨g, 0, none⟩ n cp xs (by rw [hsize]; exact hl) (fun j u hu => by
        rw [Addr.add_lit, Nat.zero_add]
        have hj := (List.getElem?_eq_some_iff.1 hu).1
        exact hb.drew.cell j (by simpa [List.getElem?_append_left hj] using hu))
    have hge := grownCap_ge w (n + 1) cp e
    have hrun := run_append_grow_src (P := P) w t tx ty e i z ht hi hz (some ⟨g, 0, none⟩) n cp xs hf x 1 [u1, u2] hs' (by omega) (by omega) (by rw [hby]; exact growslice_fits (by omega) hbytes)
    obtain ⟨q1, q2⟩ := zero_cells2 hzc (grownCap w (n + 1) cp e - (n + 1))
    refine ⟨_, _, _, hrun, ⟨by simp; omega, grownCap_le_maxLen w (n + 1) cp e (by unfold maxLen; omega), (Builtin.zeroCells z.cells (grownCap w (n + 1) cp e - (n + 1))).toList, ?_, ?_, fun u hu => ?_⟩, by omega, ((Chg.refl _ w).drew).alloc _, .inr rfl⟩
    · rw [q1]
      simp only [List.length_append, List.length_cons, List.length_nil]
      omega
    · have e1 : (xs ++ [u1, u2] ++ (Builtin.zeroCells z.cells (grownCap w (n + 1) cp e - (n + 1))).toList).toArray = (xs ++ [u1, u2]).toArray ++ Builtin.zeroCells z.cells (grownCap w (n + 1) cp e - (n + 1)) := by
        apply Array.ext'
        simp
      rw [e1]
      exact Blk.new w.drew e _
    · simp only [List.mem_append] at hu
      rcases hu with (hu | hu) | hu
      · exact hC u (by simp [hu])
      · simp at hu
        rcases hu with rfl | rfl
        · exact h1
        · exact h2
      · rcases q2 u hu with rfl | rfl
        · exact hCa
        · exact hCb
end
end Go.Mem

namespace Go.Proofs.YtblcaeoeeepajaaGreatDoor
set_option linter.unusedVariables false
open Go.RowKit Go.Mem Go.Dk Go.Pure Go.Dig

/-- A cell of an integer. -/
def KW (u : Value) : Prop := (∃ b, u = .bool b) ∨ ∃ A n c, u = .slice A n c
/-- The row at g holds the integers zs. -/
def WRow (w : World) (g n cp : Nat) (zs : List Int) : Prop :=
  zs.length = n ∧ n ≤ cp ∧ ∃ xs, RowW w 29 KW g n cp xs ∧ ∀ j z, zs[j]? = some z → ∃ s A m c, xs[j * 2]? = some (.bool s) ∧ xs[j * 2 + 1]? = some (.slice A m c) ∧ WI w (.agg #[.bool s, .slice A m c]) z
section
variable {w w' : World} {g n cp : Nat} {zs : List Int} {Y : Nat → Prop}
theorem WRow.no32 (h : WRow w g n cp zs) : No32 w g := by
  obtain ⟨h1, h2, xs, h3, _⟩ := h
  obtain ⟨cs, hb, hk⟩ := h3.kind
  exact .inl ⟨_, _, hb, fun z hz => by
    rcases hk _ (by simpa using hz) with ⟨b, e⟩ | ⟨A, n, c, e⟩ <;> cases e⟩
theorem WRow.lt (h : WRow w g n cp zs) : g < w.heap.size := by
  obtain ⟨h1, h2, xs, h3, _⟩ := h
  exact h3.lt
theorem WRow.keep (h : WRow w g n cp zs) (hc : Chg Y w w') (h1 : ¬ Y g) (h2 : ∀ k, Y k → No32 w k) : WRow w' g n cp zs := by
  obtain ⟨q1, q2, xs, q3, q4⟩ := h
  refine ⟨q1, q2, xs, q3.chg hc h1, fun j z hz => ?_⟩
  obtain ⟨s, A, m, c, e1, e2, e3⟩ := q4 j z hz
  exact ⟨s, A, m, c, e1, e2, WI.keep e3 hc h2⟩
theorem WRow.new (h : WRow w g n cp zs) (hn : New w w') : WRow w' g n cp zs := h.keep hn (fun h => h) (fun k h => h.elim)
theorem WRow.at_ (h : WRow w g n cp zs) {j : Nat} {z : Int} (hj : zs[j]? = some z) : ∃ s A m c, w.cell? ⟨g, j * 2, none⟩ = some (.bool s) ∧ w.cell? ⟨g, j * 2 + 1, none⟩ = some (.slice A m c) ∧ WI w (.agg #[.bool s, .slice A m c]) z := by
  obtain ⟨q1, q2, xs, q3, q4⟩ := h
  obtain ⟨s, A, m, c, e1, e2, e3⟩ := q4 j z hj
  exact ⟨s, A, m, c, q3.cell e1, q3.cell e2, e3⟩
/-- An append whose run is known. -/
theorem wpList_appE {P : Program} {ops : Array Oper} {rest : List Oper} {o : Oper} {a : Act} {Q : Exit → Act → World → Prop} (hgd : o.guard = none) (s x : Operand) (t : TypeId) (ho : o.op = .call { callee := .builtin .append, args := #[s, x], argTypes := #[t, t] }) {v y v' : Value} (hsv : a.eval s = v) (hyv : a.eval x = y)
    (hrun : (Builtin.append_ #[t, t] o.type #[v, y]).run P w = .ok v' w') (h : wpList P ops Q rest (a.put o.dst v') w') : wpList P ops Q (o :: rest) a w := by
  refine wpList_plain hgd fun K hK => ?_
  unfold Oper.wp execOp
  simp only [ho, resolve, invoke, builtin, Sem.run_bind, Sem.run_pure, Result.andThen_ok, List.map_toArray, List.map_cons, List.map_nil, hsv, hyv]
  rw [hrun]
  exact hK _ _ h
/-- The first one. -/
theorem lit_w1 {s : Bool} {A : Option Addr} {m c : Nat} (W : World) : (Instr.buildSlice 61 1 #[(0, .agg #[.bool s, .slice A m c])]).run Tryz.prog W = .ok (.slice (some ⟨W.heap.size, 0, none⟩) 1 1) (W.alloc (.cells #[.bool s, .slice A m c] 29)) := by kernel_rfl
theorem WRow.one {s : Bool} {A : Option Addr} {m c : Nat} {z : Int} (h : WI w (.agg #[.bool s, .slice A m c]) z) : WRow (w.alloc (.cells #[.bool s, .slice A m c] 29)) w.heap.size 1 1 [z] := by
  refine ⟨rfl, Nat.le_refl _, [.bool s, .slice A m c], ⟨rfl, by unfold maxLen; omega, [], rfl, Blk.new _ _ _, fun u hu => ?_⟩, fun j x hx => ?_⟩
  · simp at hu
    rcases hu with rfl | rfl
    · exact .inl ⟨_, rfl⟩
    · exact .inr ⟨_, _, _, rfl⟩
  · cases j with
    | zero =>
      simp at hx
      subst hx
      exact ⟨s, A, m, c, rfl, rfl, h.new ((Chg.refl _ w).alloc _)⟩
    | succ j => simp at hx
theorem src_w1 {s : Bool} {A : Option Addr} {m c gl : Nat} (h : Blk w gl 29 #[.bool s, .slice A m c]) : Src Tryz.prog 2 61 (.slice (some ⟨gl, 0, none⟩) 1 1) 1 [.bool s, .slice A m c] w :=
  Src.ofSlice w Tryz.underlying61 ⟨gl, 0, none⟩ 1 1 _ rfl (fun j u hu => by
    rw [Addr.add_lit, Nat.zero_add]
    exact h.cell j (by simpa using hu)) (fun u hu => by
    simp at hu
    rcases hu with rfl | rfl <;> rfl)
theorem WRow.app {s : Bool} {A : Option Addr} {m c gl : Nat} {z : Int} (h : WRow w g n cp zs) (hl : Blk w gl 29 #[.bool s, .slice A m c]) (hv : WI w (.agg #[.bool s, .slice A m c]) z) (hn : n ≤ 1000) :
    ∃ g' cp' w', (Builtin.append_ #[61, 61] 61 #[.slice (some ⟨g, 0, none⟩) n cp, .slice (some ⟨gl, 0, none⟩) 1 1]).run Tryz.prog w = .ok (.slice (some ⟨g', 0, none⟩) (n + 1) cp') w' ∧ WRow w' g' (n + 1) cp' (zs ++ [z]) ∧ Chg (fun k => k = g) w w' ∧ (g' = g ∨ g' = w.heap.size) := by
  have h32 := h.no32
  obtain ⟨q1, q2, xs, q3, q4⟩ := h
  obtain ⟨i, hi, hz, hs, hb⟩ : ∃ i, Tryz.prog.info? 29 = some i ∧ i.zero = some (.agg #[.bool false, .slice none 0 0]) ∧ i.size = 2 ∧ i.bytes = 32 := by
    have : (Tryz.prog.info? 29).map (fun i => (i.zero, i.size, i.bytes)) = some (some (.agg #[.bool false, .slice none 0 0]), 2, 32) := by kernel_rfl
    cases hq : Tryz.prog.info? 29 with
    | none => rw [hq] at this; cases this
    | some i =>
      rw [hq] at this
      injection this with this
      injection this with e1 e2
      injection e2 with e2 e3
      exact ⟨i, rfl, e1, e2, e3⟩
  obtain ⟨g', cp', w', r1, r2, r3, r4, r5⟩ := q3.app Tryz.underlying61 hi hz hs hb rfl (.inl ⟨_, rfl⟩) (.inr ⟨_, _, _, rfl⟩) 61 61 q2 (src_w1 hl) (.inl ⟨_, rfl⟩) (.inr ⟨_, _, _, rfl⟩) (by omega) (by omega)
  have hk : ∀ {v : Value} {x : Int}, WI w v x → WI w' v x := fun hx => WI.keep hx r4 (fun k e => by subst e; exact h32)
  have hxl : xs.length = n * 2 := q3.1
  refine ⟨g', cp', w', r1, ⟨by simp [q1], r3, _, r2, fun j x hx => ?_⟩, r4, r5⟩
  by_cases hj : j < n
  · rw [List.getElem?_append_left (by omega)] at hx
    obtain ⟨s', A', m', c', e1, e2, e3⟩ := q4 j x hx
    exact ⟨s', A', m', c', by rw [List.getElem?_append_left (by omega)]; exact e1, by rw [List.getElem?_append_left (by omega)]; exact e2, hk e3⟩
  · rw [List.getElem?_append_right (by omega)] at hx
    obtain rfl : j = n := by
      have := (List.getElem?_eq_some_iff.1 hx).1
      simp at this
      omega
    rw [q1, Nat.sub_self] at hx
    simp at hx
    subst hx
    refine ⟨s, A, m, c, ?_, ?_, hk hv⟩
    · rw [List.getElem?_append_right (by omega), hxl, Nat.sub_self]; rfl
    · rw [List.getElem?_append_right (by omega), hxl, show j * 2 + 1 - j * 2 = 1 by omega]; rfl
end
end Go.Proofs.YtblcaeoeeepajaaGreatDoor

namespace Go.Jn
set_option linter.unusedVariables false
open Go.Dk Go.Pure
/-- The record of an integer. -/
def recI (z : Int) : List UInt8 := uvar (Txt.text z).length ++ Txt.text z
def recsI (L : List Int) : List (List UInt8) := (L.take 6).map recI
def ps (L : List Int) (i : Nat) : Int := (L.take i).sum
def pss (L : List Int) (i : Nat) : List Int := (List.range (i + 1)).map (ps L)
theorem ps_zero (L : List Int) : ps L 0 = 0 := by simp [ps]
theorem ps_succ {L : List Int} {i : Nat} {z : Int} (h : L[i]? = some z) : ps L (i + 1) = ps L i + z := by
  unfold ps
  rw [List.take_add_one, h]
  simp [List.sum_append]
theorem ps_bound {L : List Int} (h : ∀ z ∈ L, -9223372036854775808 ≤ z ∧ z ≤ 9223372036854775807) (i : Nat) : (ps L i).natAbs ≤ i * 9223372036854775808 := by
  induction i with
  | zero => rw [ps_zero, Nat.zero_mul]; exact Nat.le_refl _
  | succ i ih =>
    cases hz : L[i]? with
    | none =>
      have : ps L (i + 1) = ps L i := by unfold ps; rw [List.take_add_one, hz]; simp
      rw [this]
      exact Nat.le_trans ih (Nat.mul_le_mul_right _ (by omega))
    | some z =>
      rw [ps_succ hz]
      have hz2 := h z (List.mem_of_getElem? hz)
      have h1 : z.natAbs ≤ 9223372036854775808 := by omega
      have h2 := Int.natAbs_add_le (ps L i) z
      rw [Nat.succ_mul]
      exact Nat.le_trans h2 (Nat.add_le_add ih h1)
theorem pss_zero (L : List Int) : pss L 0 = [0] := by simp [pss, ps_zero]
theorem pss_succ (L : List Int) (i : Nat) : pss L (i + 1) = pss L i ++ [ps L (i + 1)] := by
  unfold pss
  rw [List.range_succ, List.map_append]
  rfl
theorem pss_at (L : List Int) {i j : Nat} (h : j ≤ i) : (pss L i)[j]? = some (ps L j) := by
  unfold pss
  rw [List.getElem?_map, List.getElem?_range (by omega)]
  rfl
theorem recsI_len (L : List Int) : (recsI L).length = min 6 L.length := by simp [recsI]
theorem recsI_at {L : List Int} {i : Nat} {z : Int} (hi : i < 6) (h : L[i]? = some z) : (recsI L)[i]? = some (recI z) := by
  unfold recsI
  rw [List.getElem?_map, List.getElem?_take_of_lt hi, h]
  rfl
theorem recI_len {z : Int} (h : -9223372036854775808 ≤ z ∧ z ≤ 9223372036854775807) : (recI z).length ≤ 31 := by
  unfold recI
  have h1 : (Txt.text z).length ≤ 21 := by
    have := Txt.text_len (k := 20) (z := z) (by decide) (by have : z.natAbs ≤ 9223372036854775808 := by omega
                                                            exact Nat.lt_of_le_of_lt this (by decide))
    omega
  have h2 := uvar_len (n := (Txt.text z).length) (by omega)
  rw [List.length_append]
  omega
theorem recsI_bound {L : List Int} (h : ∀ z ∈ L, -9223372036854775808 ≤ z ∧ z ≤ 9223372036854775807) : ∀ b ∈ recsI L, b.length ≤ 31 := fun b hb => by
  obtain ⟨z, hz, rfl⟩ := List.mem_map.1 hb
  exact recI_len (h z (List.mem_of_mem_take hz))
theorem recsI_get {L : List Int} {i : Nat} {z : Int} (hi : i < 6) (h : L[i]? = some z) : (recsI L).getD i [] = recI z := by
  rw [List.getD_eq_getElem?_getD, recsI_at hi h]
  rfl
end Go.Jn
