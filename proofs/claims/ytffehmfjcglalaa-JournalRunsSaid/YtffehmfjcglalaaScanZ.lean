/- Contracts of journal.records and journal.Scan. -/
import Derived.Test.YtffehmfjcglalaaFirstZ
import Derived.Test.YtffehmfjcglalaaG0
import Derived.Test.YtffehmfjcglalaaRange
set_option linter.unusedSimpArgs false
set_option linter.unusedVariables false
namespace Go.Proofs.Ytffehmfjcglalaa
set_option linter.unusedVariables false
open Go.RowKit Go.Shelf Go.Mem Go.Pure
attribute [local go_sem] Oper.semAt_some

/-- A record that is handed on: its slice, its bytes, the size of its frame. -/
structure Rec where
  A : Option Addr
  n : Nat
  c : Nat
  r : List UInt8
  size : Nat
def Rec.val (x : Rec) : Value := .slice x.A x.n x.c
def recSum (l : List Rec) : Nat := (l.map (·.size)).sum
theorem recSum_snoc (l : List Rec) (x : Rec) : recSum (l ++ [x]) = recSum l + x.size := by simp [recSum]

/-- What a round of Scan keeps: old blocks, the iterator's box, all rows of bytes. -/
def KpS (B0 Bs : Nat) (W W' : World) : Prop :=
  (∀ k, k < B0 → W'.heap[k]? = W.heap[k]?) ∧ W'.heap[Bs]? = W.heap[Bs]? ∧ (∀ (k : Nat) (cs : Array Value) (fz : Nat × Nat), W.heap[k]? = some (.cells cs 5 fz) → W'.heap[k]? = some (.cells cs 5 fz)) ∧ W.heap.size ≤ W'.heap.size
theorem KpS.refl (B0 Bs : Nat) (W : World) : KpS B0 Bs W W := ⟨fun _ _ => rfl, rfl, fun _ _ _ h => h, Nat.le_refl _⟩
theorem KpS.trans {B0 Bs : Nat} {A B C : World} (h : KpS B0 Bs A B) (h' : KpS B0 Bs B C) : KpS B0 Bs A C :=
  ⟨fun k hk => (h'.1 k hk).trans (h.1 k hk), h'.2.1.trans h.2.1, fun k cs fz hc => h'.2.2.1 k cs fz (h.2.2.1 k cs fz hc), Nat.le_trans h.2.2.2 h'.2.2.2⟩
theorem KpS.new {B0 Bs : Nat} {W W' : World} (h : New W W') (hB : B0 ≤ W.heap.size) (hBs : Bs < W.heap.size) : KpS B0 Bs W W' :=
  ⟨fun k hk => h.block k (by omega) (fun h => h), h.block Bs hBs (fun h => h), fun k cs fz hc => h.heap hc (fun h => h), h.size⟩
theorem KpS.own {B0 Bs base : Nat} {W W' : World} (h : KpS B0 Bs W W') {A : Option Addr} {n c : Nat} {xs : List Value} (ho : W.ownsRow base 5 1 (.slice A n c) n xs) : W'.ownsRow base 5 1 (.slice A n c) n xs := by
  refine ⟨ho.1, ?_⟩
  rcases ho.2 with h0 | ⟨g, cap, cur, hv, hb, hg, r⟩
  · exact .inl h0
  · exact .inr ⟨g, cap, cur, hv, hb, h.2.2.1 g cur _ hg, r⟩

/-- What is known of the records that have come. -/
def RecsOk (B0 : Nat) (b : List UInt8) (pre : List Rec) (W : World) : Prop :=
  recSum pre ≤ b.length ∧ pre.length ≤ recSum pre ∧ scanC b 0 = pre.map (·.r) ++ scanC (b.drop (recSum pre)) pre.length ∧ recSum pre = (framesP 0 (pre.map (·.r))).length ∧
    ∀ x ∈ pre, W.ownsRow B0 5 1 (.slice x.A x.n x.c) x.n (bs x.r)

theorem RecsOk.stab (B B0 : Nat) (b : List UInt8) (pre : List Rec) : Stab B (RecsOk B0 b pre) := fun W W' row ⟨h1, h2, h3, h4, h5⟩ hg hr =>
  ⟨h1, h2, h3, h4, fun x hx => row_kept (h5 x hx) hg (fun r e => (hr r e).2)⟩

theorem recs_lists {B0 : Nat} {b : List UInt8} {ys : List Rec} {W : World} (h : RecsOk B0 b ys W) : Lists W (ys.map Rec.val) (ys.map (·.r)) := by
  refine ⟨by simp, fun i v l hv hl => ?_⟩
  rw [List.getElem?_map, Option.map_eq_some_iff] at hv hl
  obtain ⟨x, hx, rfl⟩ := hv
  obtain ⟨x', hx', rfl⟩ := hl
  rw [hx] at hx'
  injection hx' with hx'
  subst hx'
  have ho := h.2.2.2.2 x (List.mem_of_getElem? hx)
  have hc := own_cap ho
  exact ⟨x.A, x.n, x.c, rfl, hc.1, hc.2, Rd.of_own ho, fun k hk => (own_blk_le ho hk).2⟩

/-- The blocks of byte slices are new. -/
def Above (B : Nat) (vs : List Value) : Prop := ∀ v ∈ vs, ∀ A n c, v = .slice A n c → ∀ k, blk A = some k → B ≤ k
theorem recs_above {B0 : Nat} {b : List UInt8} {ys : List Rec} {W : World} (h : RecsOk B0 b ys W) : Above B0 (ys.map Rec.val) := by
  intro v hv A n c e k hk
  obtain ⟨x, hx, rfl⟩ := List.mem_map.1 hv
  have ho := h.2.2.2.2 x hx
  unfold Rec.val at e
  injection e with e1 e2 e3
  exact (own_blk_le ho (by rw [e1]; exact hk)).1

set_option maxRecDepth 100000 in
set_option maxHeartbeats 2000000 in
theorem records1_in (n : Nat) (hn : 1 ≤ n) (l Bs B0 : Nat) (A : Option Addr) (len cap : Nat) (b : List UInt8) (hlen : len ≤ 100000000) (hlc : len ≤ cap) (hcm : cap ≤ maxLen) (J Jx : List Rec → World → Prop)
    (hJ : ∀ s W W', J s W → New W W' → J s W')
    (hY : ∀ pre x W1, J pre W1 → (recSum pre + x.size ≤ b.length ∧ 1 ≤ x.size ∧ W1.ownsRow B0 5 1 (.slice x.A x.n x.c) x.n (bs x.r)) → YieldAt Fence.wide (n - 1) Try.prog l #[.slice x.A x.n x.c, .int .i64 x.size] W1 fun e W' =>
      (e = .returned (.bool true) ∧ J (pre ++ [x]) W' ∧ KpS B0 Bs W1 W') ∨ (e = .returned (.bool false) ∧ Jx (pre ++ [x]) W'))
    (W : World) (hBl : Bs < W.heap.size) (hB0 : B0 ≤ W.heap.size) (hBs : W.cell? ⟨Bs, 0, none⟩ = some (.slice A len cap)) (hA : ∀ k, blk A = some k → k < B0) (hr : Rd W A len (bs b)) (h0 : J [] W) :
    CallsIn Fence.wide n Try.prog 61 #[.func (.yield l) #[] #[], .pointer (some ⟨Bs, 0, none⟩)] W fun e W' => (∃ v, e = .returned v) ∧
      ((∃ ys, (scanC b 0 = ys.map (·.r) ∧ RecsOk B0 b ys W') ∧ J ys W') ∨ (∃ pre, True ∧ Jx pre W')) := by
  have hbl : b.length = len := by simpa using hr.len
  have HBL := Lib.hid hbl
  clear hbl
  refine callsIn_of_wp Try.func61 rfl trivial ?_ rfl
  simp only [Try.ntmps61, List.size_toArray, List.length_cons, List.length_nil, Nat.reduceAdd, Nat.reduceSub, Array.replicate_succ, Array.replicate_zero, List.push_toArray, List.append_toArray, List.nil_append, List.cons_append]
  gi_wp2
  gi_loopw [3, 4] (fun p i wr => ∃ pre : List Rec, p = .int .i64 (recSum pre) ∧ i = .int .i64 pre.length ∧ J pre wr ∧ KpS B0 Bs W wr ∧ RecsOk B0 b pre wr ∧ W.heap.size ≤ wr.heap.size)
    (fun p _ _ => len - (intOf p).toNat)
  case atStart => exact ⟨[], rfl, rfl, h0, KpS.refl _ _ _, ⟨by simp [recSum], by simp [recSum], by simp [recSum], by simp [recSum, framesP_nil], by simp⟩, Nat.le_refl _⟩
  case round =>
    obtain ⟨pre, rfl, rfl, hJs, hK, hok, hsz⟩ := hrel
    have HJ := Lib.hid hJs
    have HK := Lib.hid hK
    have HOK := Lib.hid hok
    obtain ⟨at_, hat⟩ : ∃ at_, recSum pre = at_ := ⟨_, rfl⟩
    obtain ⟨num, hnum⟩ : ∃ num, pre.length = num := ⟨_, rfl⟩
    have hle : at_ ≤ len := by have := hok.1; rw [HBL.out] at this; omega
    have hnl : num ≤ at_ := by have := hok.2.1; omega
    have HAT := Lib.hid hat
    have HNUM := Lib.hid hnum
    rw [hat, hnum]
    clear hJs hK hok hat hnum
    have hBs' : wr.cell? ⟨Bs, 0, none⟩ = some (.slice A len cap) := (World.cell?_of_block (w := W) HK.out.2.1).trans hBs
    have hr' : Rd wr A len (bs b) := ⟨hr.1, fun h => by
      obtain ⟨ad, rfl, hc⟩ := hr.2 h
      exact ⟨ad, rfl, fun j u hu => (World.cell?_of_block (w := W) (HK.out.1 _ (by rw [block_add]; exact hA _ rfl))).trans (hc j u hu)⟩⟩
    have HR := Lib.hid hr'
    have HR0 := Lib.hid hr
    have HA := Lib.hid hA
    have HY := Lib.hid hY
    have HJJ := Lib.hid hJ
    clear hr' hr hA hY hJ
    have hcut := fun W => run_cut elemBytes .i64 A len cap at_ (at_ : Int) rfl hle W
    gi_wp2
    refine ⟨trivial, (callsIn_wide.2 (first_any (num : Int) (cutA A cap at_) (len - at_) (cap - at_) (b.drop at_) wr (by omega) (by omega) (by have := HR.out.cutA (cap := cap) hle hlc; rwa [bs_drop] at this) (by omega) (by omega) (Nat.le_trans (Nat.sub_le _ _) hcm) (by
      intro k hk
      rw [blk_cutA] at hk
      have := HA.out k hk
      omega))).mono ?_⟩
    rintro e w1 ⟨hn1, ⟨hf, rfl⟩ | ⟨r, A1, n1, c1, hf, rfl, ho⟩⟩
    · have hJ1 : J pre w1 := HJJ.out _ _ _ HJ.out hn1
      have hok1 : RecsOk B0 b pre w1 := (RecsOk.stab 0 B0 b pre).new HOK.out hn1
      have hsc : scanC b 0 = pre.map (·.r) := by
        rw [HOK.out.2.2.1, HAT.out, HNUM.out, scanC_none hf, List.append_nil]
      have HF := Lib.hid (And.intro hsc (And.intro hok1 hJ1))
      clear hf hJ1 hok1 hsc hn1
      gi_wp2
      refine ⟨fun _ h => (by cases h), ?_⟩
      gi_wp2
      refine bodyPost_ret (results_none rfl _ _ _) rfl ?_
      exact ⟨⟨_, rfl⟩, .inl ⟨pre, ⟨HF.out.1, HF.out.2.1⟩, HF.out.2.2⟩⟩
    · have hfl := firstC_le hf
      rw [List.length_drop, HBL.out] at hfl
      have hfp := frameP_pos (num : Int) r
      obtain ⟨sz, hszq⟩ : ∃ sz, (frameP (num : Int) r).length = sz := ⟨_, rfl⟩
      rw [hszq] at hfl hfp ⊢
      have HSZ := Lib.hid hszq
      have ho' : w1.ownsRow B0 5 1 (.slice A1 n1 c1) n1 (bs r) := own_base ho (by omega)
      have hJ1 : J pre w1 := HJJ.out _ _ _ HJ.out hn1
      have hK1 : KpS B0 Bs W w1 := HK.out.trans (KpS.new hn1 (by omega) (by omega))
      have hok1 : RecsOk B0 b pre w1 := (RecsOk.stab 0 B0 b pre).new HOK.out hn1
      have hok2 : ∀ w2, KpS B0 Bs w1 w2 → RecsOk B0 b (pre ++ [⟨A1, n1, c1, r, sz⟩]) w2 := fun w2 hk2 => by
        obtain ⟨q1, q2, q3, q4, q5⟩ := hok1
        rw [HAT.out] at q1 q2 q3 q4
        rw [HNUM.out] at q2 q3
        refine ⟨?_, ?_, ?_, ?_, ?_⟩
        · rw [recSum_snoc, HAT.out, HBL.out]; simp only; omega
        · rw [recSum_snoc, HAT.out, List.length_append, HNUM.out]; simp only [List.length_singleton]; omega
        · rw [recSum_snoc, HAT.out, List.length_append, HNUM.out, q3, scanC_some hf, hszq]
          simp [List.drop_drop]
        · rw [recSum_snoc, HAT.out, List.map_append, List.map_cons, List.map_nil, framesP_snoc, List.length_append, ← q4, List.length_map, HNUM.out, Nat.zero_add, hszq]
        · intro x hx
          rcases List.mem_append.1 hx with hx | hx
          · exact hk2.own (q5 x hx)
          · simp at hx
            subst hx
            exact hk2.own ho'
      obtain ⟨fn, tmps, assign, body, hy, hRR⟩ := HY.out pre ⟨A1, n1, c1, r, sz⟩ w1 hJ1 ⟨by rw [HAT.out, HBL.out]; simp only; omega, hfp, ho'⟩
      have H1 := Lib.hid (And.intro hK1 (And.intro hok2 hn1))
      have HRR := Lib.hid hRR
      clear hf ho ho' hJ1 hK1 hok1 hok2 hn1 hRR hszq
      gi_wp2
      refine HRR.out.mono ?_
      rintro e w2 (⟨rfl, hJ2, hk2⟩ | ⟨rfl, hJx2⟩)
      · gi_wp2
        go_roundw
        case rel =>
          refine ⟨pre ++ [⟨A1, n1, c1, r, sz⟩], ?_, ?_, hJ2, H1.out.1.trans hk2, H1.out.2.1 w2 hk2, ?_⟩
          · rw [recSum_snoc, HAT.out]; go_num
          · rw [List.length_append, HNUM.out]; go_num
          · exact Nat.le_trans H1.out.1.2.2.2 hk2.2.2.2
        case measure => simp [intOf]; omega
      · gi_wp2
        refine bodyPost_ret (results_none rfl _ _ _) rfl ?_
        exact ⟨⟨_, rfl⟩, .inr ⟨_, trivial, hJx2⟩⟩

theorem elemLists : Elem Try.prog 27 33 (.slice none 0 0) 24 := Elem.mk' Try.underlying27 (by kernel_rfl) rfl

set_option maxHeartbeats 400000 in
theorem records_any (A : Option Addr) (len cap : Nat) (w : World) :
    Calls Try.prog 50 #[.slice A len cap] w fun e w' => ∃ Bs, e = .returned (.func (.func 61) #[] #[.pointer (some ⟨Bs, 0, none⟩)]) ∧ Blk w' Bs 33 #[.slice A len cap] ∧ New w w' ∧ w.heap.size ≤ Bs := by
  go_enter Try.func50, Try.ntmps50
  go_wp2
  go_ret
  exact ⟨w.heap.size, rfl, Blk.new _ _ _, (Chg.refl _ w).alloc _, Nat.le_refl _⟩

theorem records_seq (n : Nat) (hn : 1 ≤ n) (Bs B0 : Nat) (A : Option Addr) (len cap : Nat) (b : List UInt8) (hlen : len ≤ 100000000) (hlc : len ≤ cap) (hcm : cap ≤ maxLen) (w : World)
    (hBl : Bs < w.heap.size) (hB0 : B0 ≤ w.heap.size) (hBs : w.cell? ⟨Bs, 0, none⟩ = some (.slice A len cap)) (hA : ∀ k, blk A = some k → k < B0) (hr : Rd w A len (bs b)) :
    SeqF Fence.wide n Try.prog 61 #[.pointer (some ⟨Bs, 0, none⟩)] (fun x : Rec => #[.slice x.A x.n x.c, .int .i64 x.size])
      (fun pre x W => recSum pre + x.size ≤ b.length ∧ 1 ≤ x.size ∧ W.ownsRow B0 5 1 (.slice x.A x.n x.c) x.n (bs x.r)) (KpS B0 Bs) (fun ys W => scanC b 0 = ys.map (·.r) ∧ RecsOk B0 b ys W) (fun _ _ => True) w := fun l J Jx W hW hJ hY h0 =>
  records1_in n hn l Bs B0 A len cap b hlen hlc hcm J Jx hJ hY W (Nat.lt_of_lt_of_le hBl hW.size) (Nat.le_trans hB0 hW.size) (hW.cell hBs (fun h => h)) hA (hr.new hW) h0

set_option maxRecDepth 100000 in
set_option maxHeartbeats 2000000 in
theorem scan_new (A : Option Addr) (n c : Nat) (b : List UInt8) (w : World) (hr : Rd w A n (bs b)) (hn : n ≤ 100000000) (hnc : n ≤ c) (hcm : c ≤ maxLen) (hA : ∀ k, blk A = some k → k < w.heap.size) :
    Calls Try.prog 31 #[.slice A n c] w fun e w' => ∃ Al nl cl vs, e = .returned (.tuple #[.slice Al nl cl, .int .i64 (framesP 0 (scanC b 0)).length]) ∧
      w'.ownsRow w.heap.size 33 1 (.slice Al nl cl) nl vs ∧ Lists w' vs (scanC b 0) ∧ Above w.heap.size vs ∧ New w w' := by
  have hll : b.length = n := by have := hr.len; rwa [bs_length] at this
  have HLL := Lib.hid hll
  clear hll
  refine (callsIn_wide (n := 10)).1 ?_
  refine callsIn_of_wp_marks Try.func31 rfl trivial ?_ rfl
  simp only [Try.ntmps31, List.size_toArray, List.length_cons, List.length_nil, Nat.reduceAdd, Nat.reduceSub, Array.replicate_succ, Array.replicate_zero, List.push_toArray, List.append_toArray, List.nil_append, List.cons_append]
  gi_wp2_with (refine ⟨trivial, ?_⟩; gi_at_call 50; refine (callsIn_wide.2 (records_any _ _ _ _)).mono ?_; rintro e w' ⟨Bs, rfl, hBs, hnew, hle⟩)
  have hb1 : Blk w' w.heap.size 27 #[.slice none 0 0] := ((Blk.new w 27 #[.slice none 0 0]).alloc _).chg hnew (fun h => h)
  have hb2 : Blk w' (w.heap.size + 1) 3 #[.int .i64 0] := by
    have := Blk.new (w.alloc (.cells #[.slice none 0 0] 27)) 3 #[.int .i64 0]
    rw [World.size_alloc] at this
    exact this.chg hnew (fun h => h)
  have hn1 : New w w' := (((Chg.refl _ w).alloc _).alloc _).new hnew
  simp only [World.size_alloc] at hle
  have hbl := hBs.lt
  have hbs := hBs.cell 0 rfl
  have hr' := hr.new hn1
  clear hnew
  refine wpIn_range rfl (by omega) (gf := 61) (lb := #[.pointer (some ⟨Bs, 0, none⟩)]) rfl trivial (enters_of Try.func61 (by kernel_rfl) rfl)
    (records_seq 9 (by omega) Bs w.heap.size A n c b hn hnc hcm w' hbl hn1.size hbs hA hr') (fun h h' => KpS.trans h h') ?kb (fun _ => rfl) ?hFx ?hS (fun _ => Stab.const _ _)
    (fun pre W => ∃ A1 c1, Blk W w.heap.size 27 #[.slice A1 pre.length c1] ∧ W.ownsRow (Bs + 1) 33 1 (.slice A1 pre.length c1) pre.length (pre.map Rec.val) ∧ Blk W (w.heap.size + 1) 3 #[.int .i64 (recSum pre)] ∧ Below w.heap.size w W ∧ pre.length ≤ recSum pre ∧ recSum pre ≤ b.length ∧ Bs < W.heap.size)
    (fun _ _ _ => False) ?hI (fun _ _ => Stab.const _ _) ⟨none, 0, hb1, World.ownsRow_nil _ _ _ _, hb2, New.below hn1, by simp [recSum], by simp [recSum], hbl⟩ ?a1 ?assign ?body ?done ?stop
  case assign =>
    intro l' x W K hK
    gi_wp2
    exact hK
  case kb =>
    intro W l' o o' hl' ho hoc
    refine ⟨fun k hk => World.putObj_heap_other (by have := hn1.size; omega), World.putObj_heap_other (by omega), fun k cs fz hc => ?_, by simp⟩
    refine (World.putObj_heap_other (fun e => ?_)).trans hc
    subst e
    rw [hc] at ho
    cases ho
    simp [Obj.isCells] at hoc
  case hFx =>
    intro pre x
    exact Stab.and (Stab.const _ _) (Stab.and (Stab.const _ _) (Stab.own _ _ _ _ _ _ _))
  case hS =>
    intro xs
    exact Stab.and (Stab.const _ _) (RecsOk.stab _ _ _ _)
  case hI =>
    rintro pre W W' row ⟨A1, c1, h1, h2, h3, h4, h5, h6, h7⟩ hg hr
    exact ⟨A1, c1, blk_kept h1 hg (fun r e => (hr r e).2), row_kept h2 hg (fun r e => (hr r e).2), blk_kept h3 hg (fun r e => (hr r e).2), h4.grown hg h4.size (fun k e => by have := (hr k e).1; have := hn1.size; omega), h5, h6, Nat.lt_of_lt_of_le h7 hg.size⟩
  case stop =>
    rintro D c pre W _ _ h _
    exact h.elim
  case body =>
    rintro l' pre x W ⟨A1, c1, hb, ho, hbn, hB, hps, hpb, hBsl⟩ ⟨hsum, hxs, hox⟩
    have hcs := hb.cell 0 rfl
    have hfs := hb.frozen 0
    have hgl := hb.lt
    have hcn := hbn.cell 0 rfl
    have hfn := hbn.frozen 0
    have hgn := hbn.lt
    obtain ⟨N, hN⟩ : ∃ N, pre.length = N := ⟨_, rfl⟩
    obtain ⟨Sm, hSm⟩ : ∃ Sm, recSum pre = Sm := ⟨_, rfl⟩
    rw [HLL.out] at hsum hpb
    rw [hSm] at hbn hcn hsum hps hpb
    rw [hN] at hb ho hcs hps
    have HN := Lib.hid hN
    have HSm := Lib.hid hSm
    have HB := Lib.hid hb
    have HO := Lib.hid ho
    have HBN := Lib.hid hbn
    have HBB := Lib.hid hB
    have HX := Lib.hid hox
    clear hb ho hbn hB hN hSm hox hA hr hr' hb1 hb2 hn1 hBs hbs
    gi_wp2_with (gi_at_builtin; refine wpListIn_app elemLists rfl _ _ rfl rfl (HO.out.alloc _) rfl Rd.one (by simp [Value.oneCell']) (by simp only [maxLen]; omega) (by omega) (by simp; omega) ?_; intro A' c' w2 hown2 hg2 hat2; have hb2 := (HB.out.alloc _).grown hg2 (HB.out.ne_own HO.out (by decide)); have hcc2 := hb2.cell 0 rfl; have hff2 := hb2.frozen 0; have hbn2 := (HBN.out.alloc _).grown hg2 (HBN.out.ne_own HO.out (by decide)); have hcn2 := hbn2.cell 0 rfl; have hfn2 := hbn2.frozen 0; have HB2 := Lib.hid hb2; have HBN2 := Lib.hid hbn2; have HO2 := Lib.hid hown2; clear hb2 hbn2 hown2)
    have hne := HB2.out.ne_own HO2.out (by decide)
    have hne2 := HBN2.out.ne_own HO2.out (by decide)
    have hchg : Chg (fun k => k = w.heap.size ∨ k = w.heap.size + 1 ∨ blk A1 = some k) W ((w2.setCell ⟨w.heap.size, 0, none⟩ (.slice A' (N + 1) c')).setCell ⟨w.heap.size + 1, 0, none⟩ (.int .i64 ((Sm : Int) + (x.size : Int)))) :=
      (((((Chg.refl _ W).alloc _).grown hg2 (fun k hk _ => .inr (.inr hk))).setCell (fun _ => .inl rfl) _).setCell (fun _ => .inr (.inl rfl)) _)
    have hkeep : KeepsOthers W ((w2.setCell ⟨w.heap.size, 0, none⟩ (.slice A' (N + 1) c')).setCell ⟨w.heap.size + 1, 0, none⟩ (.int .i64 ((Sm : Int) + (x.size : Int)))) :=
      ((KeepsOthers.alloc _ _).trans ((KeepsOthers.of_app (HO.out.alloc _) hg2).trans ((KeepsOthers.setCell _ _ _).trans (KeepsOthers.setCell _ _ _))))
    have hBB : Below w.heap.size w ((w2.setCell ⟨w.heap.size, 0, none⟩ (.slice A' (N + 1) c')).setCell ⟨w.heap.size + 1, 0, none⟩ (.int .i64 ((Sm : Int) + (x.size : Int)))) := HBB.out.trans (hchg.below (fun k h => by
      rcases h with h | h | h
      · omega
      · omega
      · have := (own_blk_le HO.out h).1; omega) HBB.out.size)
    refine ⟨hkeep.from _, ⟨fun k hk => ?_, ?_, fun k cs fz hc => ?_, hchg.size⟩, A', c', ?_, ?_, ?_, hBB, ?_, ?_, Nat.lt_of_lt_of_le hBsl hchg.size⟩
    · refine hchg.block k (by have := HBB.out.size; omega) (fun h => ?_)
      rcases h with h | h | h
      · omega
      · omega
      · have := (own_blk_le HO.out h).1; omega
    · refine hchg.block Bs hBsl (fun h => ?_)
      rcases h with h | h | h
      · omega
      · omega
      · have := (own_blk_le HO.out h).1; omega
    · refine hchg.heap hc (fun h => ?_)
      rcases h with h | h | h
      · subst h
        have := HB.out
        unfold Blk at this
        rw [hc] at this
        cases this
      · subst h
        have := HBN.out
        unfold Blk at this
        rw [hc] at this
        cases this
      · rcases HO.out.2 with ⟨hv, _⟩ | ⟨g', cap, cur, hv, _, hh, _⟩
        · injection hv with hv; subst hv; cases h
        · injection hv with hv
          subst hv
          have : g' = k := by simpa [blk] using h
          subst this
          rw [hc] at hh
          cases hh
    · rw [List.length_append, HN.out]
      exact (HB2.out.set_ 0 _).far (by simp) _
    · rw [List.length_append, HN.out, List.map_append]
      change World.ownsRow _ _ _ _ (.slice A' (N + 1) c') (N + 1) (pre.map Rec.val ++ [x.val])
      have h1 := own_chg (S := fun k => k = w.heap.size) HO2.out ((Chg.refl (fun k => k = w.heap.size) w2).setCell (p := ⟨w.heap.size, 0, none⟩) (fun _ => rfl) (.slice A' (N + 1) c')) (fun k hk e => hne (by rw [hk, e]))
      exact own_chg (S := fun k => k = w.heap.size + 1) h1 ((Chg.refl (fun k => k = w.heap.size + 1) _).setCell (p := ⟨w.heap.size + 1, 0, none⟩) (fun _ => rfl) _) (fun k hk e => hne2 (by rw [hk, e]))
    · rw [recSum_snoc, HSm.out]
      exact (HBN2.out.far (p := ⟨w.heap.size, 0, none⟩) (by simp) _).set_ 0 _
    · rw [recSum_snoc, HSm.out, List.length_append, HN.out]; simp only [List.length_singleton]; omega
    · rw [recSum_snoc, HSm.out, HLL.out]; omega
  case done =>
    rintro D ys W hD ⟨hsc, hok⟩ ⟨A1, c1, hb, ho, hbn, hB, hps, hpb, hBsl⟩ hK
    have hcs := hb.cell 0 rfl
    have hcn := hbn.cell 0 rfl
    have HB := Lib.hid hb
    have HO := Lib.hid ho
    have HBB := Lib.hid hB
    have HK := Lib.hid hK
    have HSC := Lib.hid hsc
    have HOK := Lib.hid hok
    clear hb ho hbn hB hK hsc hok
    gi_wp2
    gi_region
    gi_wp2
    have hst : Stab 0 (fun V => (V.ownsRow (Bs + 1) 33 1 (.slice A1 ys.length c1) ys.length (ys.map Rec.val) ∧ RecsOk w.heap.size b ys V)) := Stab.and (Stab.own _ _ _ _ _ _ _) (RecsOk.stab _ _ _ _)
    have hfin := hst.put (W := W.drew) (l := D) (.deferred none) ⟨HO.out, HOK.out⟩ (Nat.zero_le _) HK.out rfl
    refine ⟨by simp, .inl ⟨_, _, rfl, run_takeDeferred (w := W.drew) HK.out, ?_⟩⟩
    refine ⟨_, results_tmp2 rfl _ _ _, A1, ys.length, c1, ys.map Rec.val, ?_, own_base hfin.1 (by omega), ?_, recs_above hfin.2, New.of_below (HBB.out.drew.trans (belowK_b (w := w) (Nat.le_refl _) _ D _ _ (by have := hn1.size; omega) HK.out rfl rfl))⟩
    · rw [HSC.out, ← HOK.out.2.2.2.1]
      rfl
    · rw [HSC.out]
      exact recs_lists hfin.2

theorem scan_any (A : Option Addr) (n c : Nat) (b : List UInt8) (w : World) (hr : Rd w A n (bs b)) (hn : n ≤ 100000000) (hnc : n ≤ c) (hcm : c ≤ maxLen) (hA : ∀ k, blk A = some k → k < w.heap.size) :
    Calls Try.prog 31 #[.slice A n c] w fun e w' => ∃ Al nl cl vs, e = .returned (.tuple #[.slice Al nl cl, .int .i64 (framesP 0 (scanC b 0)).length]) ∧
      w'.ownsRow w.heap.size 33 1 (.slice Al nl cl) nl vs ∧ Lists w' vs (scanC b 0) ∧ New w w' := by
  refine (scan_new A n c b w hr hn hnc hcm hA).mono ?_
  rintro e w' ⟨Al, nl, cl, vs, h1, h2, h3, _, h4⟩
  exact ⟨Al, nl, cl, vs, h1, h2, h3, h4⟩
end Go.Proofs.Ytffehmfjcglalaa
