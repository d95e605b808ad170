/- The operations that the reference makes of ints: the plain list; a row of them in memory; the walk. (Printed by gen_ops.py.) -/
import Derived.Test.YtdflpcbkkpgnlaaB0
import Derived.Test.YtdflpcbkkpgnlaaRdIZ
import Derived.Maps.AppendAt
namespace Go.Dk
/-- The number out of which an operation's parts are made. -/
def opN (x : Int) : Nat := (Go.Proofs.Ytdflpcbkkpgnlaa.aroundI (x.tdiv 16) 4096).toNat
def opA (x : Int) : Nat := (Go.Proofs.Ytdflpcbkkpgnlaa.aroundI x 16).toNat
/-- A byte of x. -/
def shB (x : Int) (k : Nat) : UInt8 := UInt8.ofNat ((x / 2 ^ k) % 256).toNat
def opOf (x : Int) : Op :=
  if opA x ≤ 1 then ⟨1, (opN x % 3 : Nat), 0, [], []⟩ else if opA x = 2 then ⟨2, (opN x % 3 : Nat), (opN x / 3 % 9 : Nat) - 1, [], []⟩ else if opA x = 3 then ⟨3, (opN x % 3 : Nat), (opN x / 3 % 7 : Nat) - 1, [], []⟩ else
  if opA x ≤ 5 then ⟨4, (opN x % 3 : Nat), (opN x / 4 % 40 : Nat) - 4, [], [((opN x % 5 : Nat) : Int) - 1, ((opN x / 5 % 5 : Nat) : Int), ((opN x / 25 % 5 : Nat) : Int)].take (opN x / 125 % 4)⟩ else
  if opA x = 6 then ⟨0, (opN x % 70 : Nat) - 3, 0, [1], []⟩ else ⟨0, (opN x % 3 : Nat), 0, (List.range (opN x / 3 % 6)).map (shB x), []⟩
def opsL (l : List Int) : List Op := (l.take 16).map opOf
section
variable {x : Int}
theorem opOf1 (h : opA x ≤ 1) : opOf x = ⟨1, (opN x % 3 : Nat), 0, [], []⟩ := if_pos h
theorem opOf2 (h : opA x = 2) : opOf x = ⟨2, (opN x % 3 : Nat), (opN x / 3 % 9 : Nat) - 1, [], []⟩ := by unfold opOf; rw [if_neg (by omega), if_pos h]
theorem opOf3 (h : opA x = 3) : opOf x = ⟨3, (opN x % 3 : Nat), (opN x / 3 % 7 : Nat) - 1, [], []⟩ := by unfold opOf; rw [if_neg (by omega), if_neg (by omega), if_pos h]
theorem opOf4 (h : opA x = 4 ∨ opA x = 5) : opOf x = ⟨4, (opN x % 3 : Nat), (opN x / 4 % 40 : Nat) - 4, [], [((opN x % 5 : Nat) : Int) - 1, ((opN x / 5 % 5 : Nat) : Int), ((opN x / 25 % 5 : Nat) : Int)].take (opN x / 125 % 4)⟩ := by unfold opOf; rw [if_neg (by omega), if_neg (by omega), if_neg (by omega), if_pos (by omega)]
theorem opOf6 (h : opA x = 6) : opOf x = ⟨0, (opN x % 70 : Nat) - 3, 0, [1], []⟩ := by unfold opOf; rw [if_neg (by omega), if_neg (by omega), if_neg (by omega), if_neg (by omega), if_pos h]
theorem opOf7 (h : 7 ≤ opA x) : opOf x = ⟨0, (opN x % 3 : Nat), 0, (List.range (opN x / 3 % 6)).map (shB x), []⟩ := by unfold opOf; rw [if_neg (by omega), if_neg (by omega), if_neg (by omega), if_neg (by omega), if_neg (by omega)]
end
theorem opOf_ok (x : Int) : (opOf x).Ok := by
  have h1 := Go.Proofs.Ytdflpcbkkpgnlaa.aroundI_range (x.tdiv 16) 4096 (by omega)
  have h2 : opN x < 4096 := by unfold opN; omega
  rcases (show opA x ≤ 1 ∨ opA x = 2 ∨ opA x = 3 ∨ (opA x = 4 ∨ opA x = 5) ∨ opA x = 6 ∨ 7 ≤ opA x by omega) with h | h | h | h | h | h
  · rw [opOf1 h]; exact ⟨by simp, by simp; omega, by simp, by simp, by simp, by simp⟩
  · rw [opOf2 h]; exact ⟨by simp, by simp; omega, by simp; omega, by simp, by simp, by simp⟩
  · rw [opOf3 h]; exact ⟨by simp, by simp; omega, by simp; omega, by simp, by simp, by simp⟩
  · rw [opOf4 h]
    refine ⟨by simp, by simp; omega, by simp; omega, by simp, ?_, fun z hz => ?_⟩
    · show (List.take _ _).length ≤ _
      rw [List.length_take]; simp; omega
    · have hz := List.mem_of_mem_take hz
      simp at hz
      rcases hz with rfl | rfl | rfl <;> omega
  · rw [opOf6 h]; exact ⟨by simp, by simp; omega, by simp, by simp, by simp, by simp⟩
  · rw [opOf7 h]; exact ⟨by simp, by simp; omega, by simp, by simp; omega, by simp, by simp⟩
theorem opsL_ok {l : List Int} {k : Nat} {o : Op} (h : (opsL l)[k]? = some o) : o.Ok := by
  unfold opsL at h
  rw [List.getElem?_map] at h
  cases hx : (l.take 16)[k]? with
  | none => rw [hx] at h; cases h
  | some x => rw [hx] at h; injection h with h; rw [← h]; exact opOf_ok x
theorem opsL_len (l : List Int) : (opsL l).length = min 16 l.length := by unfold opsL; rw [List.length_map, List.length_take]
end Go.Dk
namespace Go.Proofs.Ytdflpcbkkpgnlaa
set_option linter.unusedVariables false
open Go.RowKit Go.Mem Go.Dk

/-- The cells of an operation; its slices lie in blocks of T. -/
def OpC (w : World) (T : Nat → Prop) (cs : List Value) (o : Dk.Op) : Prop :=
  ∃ A ca K ck, cs = [.int .i64 o.kind, .int .i64 o.file, .int .i64 o.n, .slice A o.b.length ca, .slice K o.keep.length ck] ∧ Rd w A o.b.length (bs o.b) ∧ o.b.length ≤ ca ∧ Rd w K o.keep.length (is o.keep) ∧ ∀ k, (blk A = some k ∨ blk K = some k) → T k
/-- A row of operations, the call's own. -/
def OpsV (w : World) (lo : Nat) (v : Value) (os : List Dk.Op) : Prop :=
  ∃ css : List (List Value), w.ownsRow lo 48 5 v os.length css.flatten ∧ css.length = os.length ∧ ∀ (j : Nat) (o : Dk.Op), os[j]? = some o → ∃ cs, css[j]? = some cs ∧ OpC w (fun k => lo ≤ k ∧ k < w.heap.size ∧ v.ownBlock ≠ some k) cs o
section
variable {w w' : World} {T T' : Nat → Prop} {cs : List Value} {o : Dk.Op} {lo : Nat} {v : Value} {os : List Dk.Op}
theorem OpC.chg {S : Nat → Prop} (h : OpC w T cs o) (hc : Chg S w w') (hs : ∀ k, T k → ¬ S k) (ht : ∀ k, T k → T' k) : OpC w' T' cs o := by
  obtain ⟨A, ca, K, ck, h1, h2, h3, h4, h5⟩ := h
  exact ⟨A, ca, K, ck, h1, h2.chg hc (fun k hk _ => hs k (h5 k (Or.inl hk))), h3, h4.chg hc (fun k hk _ => hs k (h5 k (.inr hk))), fun k hk => ht k (h5 k hk)⟩
theorem OpC.len (h : OpC w T cs o) : cs.length = 5 := by
  obtain ⟨A, ca, K, ck, rfl, _⟩ := h
  rfl
theorem OpsV.nil (w : World) (lo : Nat) : OpsV w lo (.slice none 0 0) [] := ⟨[], World.ownsRow_nil w lo _ _, rfl, fun j o h => by simp at h⟩
theorem ownsRow_block {base : Nat} {e : TypeId} {size n : Nat} {xs : List Value} (h : w.ownsRow base e size v n xs) {k : Nat} (hk : v.ownBlock = some k) : base ≤ k ∧ k < w.heap.size := by
  rcases h.2 with ⟨rfl, _⟩ | ⟨g, cap, cur, rfl, hb, hg, _⟩
  · cases hk
  · have e : g = k := by simpa [Value.ownBlock] using hk
    subst e
    exact ⟨hb, (Array.getElem?_eq_some_iff.1 hg).1⟩
theorem ownsRow_chg {base : Nat} {e : TypeId} {size n : Nat} {xs : List Value} {S : Nat → Prop} (h : w.ownsRow base e size v n xs) (hc : Chg S w w') (hs : ∀ k, v.ownBlock = some k → ¬ S k) : w'.ownsRow base e size v n xs := by
  refine ⟨h.1, ?_⟩
  rcases h.2 with h0 | ⟨g, cap, cur, rfl, hb, hg, h1, h2, h3, h4⟩
  · exact .inl h0
  · exact .inr ⟨g, cap, cur, rfl, hb, Blk.chg (cs := cur) hg hc (hs g rfl), h1, h2, h3, h4⟩
theorem OpsV.new (h : OpsV w lo v os) (hn : New w w') : OpsV w' lo v os := by
  obtain ⟨css, h1, h2, h3⟩ := h
  refine ⟨css, ownsRow_chg h1 hn (fun _ _ h => h), h2, fun j o ho => ?_⟩
  obtain ⟨cs, h4, h5⟩ := h3 j o ho
  exact ⟨cs, h4, h5.chg hn (fun _ _ h => h) (fun k hk => ⟨hk.1, Nat.lt_of_lt_of_le hk.2.1 hn.size, hk.2.2⟩)⟩
theorem flat_len {css : List (List Value)} (h : ∀ cs ∈ css, cs.length = 5) : css.flatten.length = css.length * 5 := by
  induction css with
  | nil => rfl
  | cons c r ih =>
    rw [List.flatten_cons, List.length_append, h c (by simp), ih (fun c hc => h c (by simp [hc])), List.length_cons]
    omega
/-- One more operation. -/
theorem OpsV.app {lo : Nat} (h : OpsV w lo v os) (hlo : lo ≤ w.heap.size) {W : World} (hW : New w W) {g : Nat} (hc : OpC W (fun k => w.heap.size ≤ k ∧ k < W.heap.size) cs o) (hg : ∀ j u, cs[j]? = some u → W.cell? ⟨g, j, none⟩ = some u) (hn : os.length ≤ 1000) :
    ∃ v' w', (Builtin.append_ #[44, 44] 44 #[v, .slice (some ⟨g, 0, none⟩) 1 1]).run Try.prog W = .ok v' w' ∧ OpsV w' lo v' (os ++ [o]) ∧ Chg (fun k => v.ownBlock = some k) W w' := by
  obtain ⟨css, h1, h2, h3⟩ := h.new hW
  have hl5 := hc.len
  obtain ⟨A, ca, K, ck, rfl, h4, h5, h6, h7⟩ := hc
  obtain ⟨v', w', hr, ho, hgb, _, hbk⟩ := run_append_own_at (P := Try.prog) W lo 44 44 48 ((Try.prog.info? 48).get!) (((Try.prog.info? 48).get!).zero.get!) 5 72
    Try.underlying44 (by kernel_rfl) (by kernel_rfl) (by kernel_rfl) (by kernel_rfl) (by kernel_rfl) (by decide) v os.length css.flatten h1 ⟨g, 0, none⟩ 1 1 _ (by rw [hl5])
    (fun j u hu => by rw [Addr.add_lit, Nat.zero_add]; exact hg j u hu) (by simp [Value.oneCell']) (by simp only [maxLen]; omega) (by omega) (Nat.le_trans hlo hW.size)
  have hch : Chg (fun k => v.ownBlock = some k) W w' := (Chg.refl (fun k => v.ownBlock = some k) W).grown hgb (fun k hk _ => hk)
  have hbk' : ∀ k, v'.ownBlock = some k → v.ownBlock = some k ∨ k = W.heap.size := fun k hk => by
    rcases hbk with e | e
    · exact .inl (e ▸ hk)
    · rw [e] at hk; injection hk with hk; exact .inr hk.symm
  refine ⟨v', w', hr, ⟨css ++ [[.int .i64 o.kind, .int .i64 o.file, .int .i64 o.n, .slice A o.b.length ca, .slice K o.keep.length ck]], ?_, by simp [h2], fun j o2 ho2 => ?_⟩, hch⟩
  · simpa using ho
  · by_cases hj : j < os.length
    · rw [List.getElem?_append_left hj] at ho2
      obtain ⟨cs2, q1, q2⟩ := h3 j o2 ho2
      refine ⟨cs2, by rw [List.getElem?_append_left (by omega)]; exact q1, q2.chg hch (fun k hk => hk.2.2) (fun k hk => ⟨hk.1, Nat.lt_of_lt_of_le hk.2.1 hch.size, fun e => ?_⟩)⟩
      rcases hbk' k e with e | e
      · exact hk.2.2 e
      · have := hk.2.1
        omega
    · have e : j = os.length := by
        have := (List.getElem?_eq_some_iff.1 ho2).1
        simp at this
        omega
      subst e
      have e2 : o = o2 := by simpa using ho2
      subst e2
      have hold : ∀ k, v.ownBlock = some k → k < w.heap.size := fun k hk => by
        obtain ⟨css0, h10, _⟩ := h
        exact (ownsRow_block h10 hk).2
      refine ⟨_, by rw [← h2]; simp, A, ca, K, ck, rfl, h4.chg hch (fun k hk _ e => ?_), h5, h6.chg hch (fun k hk _ e => ?_), fun k hk => ?_⟩
      · have := hold k e; have := h7 k (Or.inl hk); omega
      · have := hold k e; have := h7 k (Or.inr hk); omega
      · have h8 := h7 k hk
        refine ⟨by omega, Nat.lt_of_lt_of_le h8.2 hch.size, fun e => ?_⟩
        rcases hbk' k e with e | e
        · have := hold k e; omega
        · omega
end

theorem wpList_appV {P : Program} {ops : Array Oper} {rest : List Oper} {o : Oper} {a : Act} {Q : Exit → Act → World → Prop} {w w' : World} (hgd : o.guard = none) (s x : Operand) (t : TypeId) (ho : o.op = .call { callee := .builtin .append, args := #[s, x], argTypes := #[t, t] }) {v y v' : Value} (hsv : a.eval s = v) (hyv : a.eval x = y)
    (hrun : (Builtin.append_ #[t, t] o.type #[v, y]).run P w = .ok v' w') (h : wpList P ops Q rest (a.put o.dst v') w') : wpList P ops Q (o :: rest) a w :=
  wpList_plain hgd fun K hK => step_appW hgd s x t ho hsv hyv hrun (hK _ _ h)
theorem aggOp : Agg Try.prog 48 5 := ⟨_, Try.underlying48, rfl, by kernel_rfl⟩
theorem OpC.lit {w : World} {T : Nat → Prop} {kd fi nn : Int} : OpC w T [.int .i64 kd, .int .i64 fi, .int .i64 nn, .slice none 0 0, .slice none 0 0] ⟨kd, fi, nn, [], []⟩ :=
  ⟨none, 0, none, 0, rfl, Rd.nil _ _, Nat.le_refl _, Rd.nil _ _, fun k hk => by rcases hk with hk | hk <;> cases hk⟩
theorem rd_take {w : World} {g : Nat} {t : TypeId} {xs : List Value} (h : Blk w g t xs.toArray) {m : Nat} (hm : m ≤ xs.length) : Rd w (some ⟨g, 0, none⟩) m (xs.take m) :=
  ⟨by rw [List.length_take]; omega, fun _ => ⟨_, rfl, fun j u hu => by
    rw [Addr.add_lit, Nat.zero_add]
    refine h.cell j ?_
    rw [List.getElem?_take] at hu
    split at hu
    · simpa using hu
    · cases hu⟩⟩
theorem wrap_shB (x : Int) (k : Nat) : IntKind.u8.wrap (x / 2 ^ k) = ((shB x k).toNat : Int) := by
  unfold shB
  rw [UInt8.toNat_ofNat', IntKind.wrap_u8]
  omega
theorem shB_app {w : World} {A2 : Option Addr} {j c2 : Nat} {x : Int} {y : UInt8} (h : RowV w 5 IsU8 (.slice A2 j c2) (bs ((List.range j).map (shB x)))) (hy : shB x j = y) (hj : j ≤ 5) :
    ∃ A3 c3 w4, (Builtin.append_ #[27, 27] 27 #[.slice A2 j c2, .slice (some ⟨w.heap.size, 0, none⟩) 1 1]).run Try.prog (w.drew.alloc (.cells #[.int .u8 (y.toNat : Int)] 5)) = .ok (.slice A3 (j + 1) c3) w4 ∧
      RowV w4 5 IsU8 (.slice A3 (j + 1) c3) (bs ((List.range (j + 1)).map (shB x))) ∧ (∀ k, blkV (.slice A3 (j + 1) c3) = some k → blkV (.slice A2 j c2) = some k ∨ w.heap.size < k) ∧ Chg (fun k => blkV (.slice A2 j c2) = some k) (w.drew.alloc (.cells #[.int .u8 (y.toNat : Int)] 5)) w4 := by
  have hb : Blk (w.drew.alloc (.cells (bs [y]).toArray 5)) w.heap.size 5 (bs [y]).toArray := Blk.new w.drew 5 (bs [y]).toArray
  have hrd : Rd (w.drew.alloc (.cells (bs [y]).toArray 5)) (some ⟨w.heap.size, 0, none⟩) 1 (bs [y]) := rd_take hb (m := 1) (Nat.le_refl _)
  have h1 := h.new (((Chg.refl _ w).drew.alloc (.cells (bs [y]).toArray 5)) : New w _)
  obtain ⟨v3, w4, hrun, h2, h3, h4, _⟩ := RowV.app (P := Try.prog) elemB rfl ⟨0, rfl⟩ 27 27 h1 (src_rd (c := 1) Try.underlying27 hrd (bs_one [y])) (bs_u8 [y]) (by simp; omega) (by simp; omega)
  have hl : bs ((List.range j).map (shB x)) ++ bs [y] = bs ((List.range (j + 1)).map (shB x)) := by
    rw [List.range_succ, List.map_append, ← hy]
    simp [bs]
  rw [hl] at h2
  obtain ⟨A3, c3, rfl, _⟩ := h2.shape
  have hn : (bs ((List.range (j + 1)).map (shB x))).length = j + 1 := by simp
  rw [hn] at hrun h2 h4
  refine ⟨A3, c3, w4, hrun, h2, fun k hk => ?_, (Chg.refl (fun k => blkV (.slice A2 j c2) = some k) _).grown h3 (fun k hk _ => hk)⟩
  rcases h4 with e | ⟨e, _⟩
  · exact .inl (e ▸ hk)
  · rw [e] at hk
    injection hk with hk
    have e2 : (w.drew.alloc (.cells (bs [y]).toArray 5)).heap.size = w.heap.size + 1 := by simp
    exact .inr (by omega)
theorem tdiv16 {x : Int} (h : -9223372036854775808 ≤ x ∧ x ≤ 9223372036854775807) : -9223372036854775808 ≤ x.tdiv 16 ∧ x.tdiv 16 ≤ 9223372036854775807 := by
  rcases Int.le_total 0 x with h0 | h0
  · rw [Int.tdiv_eq_ediv_of_nonneg h0]; omega
  · have e : x.tdiv 16 = -((-x).tdiv 16) := by rw [Int.neg_tdiv, Int.neg_neg]
    rw [e, Int.tdiv_eq_ediv_of_nonneg (by omega)]
    omega

set_option maxHeartbeats 4000000 in
set_option maxRecDepth 100000 in
theorem rOps_any (A : Option Addr) (n c : Nat) (l : List Int) (w : World) (h : Rd w A n (is l)) (hr : ∀ z ∈ l, -9223372036854775808 ≤ z ∧ z ≤ 9223372036854775807) (hn : n ≤ 9223372036854775807) :
    Calls Try.prog 22 #[.slice A n c] w fun e w' => ∃ v, e = .returned v ∧ OpsV w' w.heap.size v (opsL l) ∧ New w w' := by
  have hl : l.length = n := by simpa using h.len
  have HL := Lib.hid hl
  have HR := Lib.hid h
  have HZ := Lib.hid hr
  clear h hr hl
  go_enter Try.func22, Try.ntmps22
  go_wp2
  go_loopw [4, 3] (fun u v wr => ∃ k : Nat, k ≤ n ∧ k ≤ 16 ∧ u = .int .i64 (k : Int) ∧ OpsV wr w.heap.size v ((l.take k).map opOf) ∧ New w wr) (fun u _ _ => 16 - (intOf u).toNat)
  case atStart => exact ⟨0, by omega, by omega, rfl, OpsV.nil _ _, Chg.refl _ _⟩
  case round =>
    obtain ⟨k, hk, hk16, rfl, hov, hnw⟩ := hrel
    have HO := Lib.hid hov
    have HN := Lib.hid hnw
    have hz1 : w.heap.size ≤ wr.heap.size := hnw.size
    clear hov
    by_cases hlt : k < n
    · by_cases hlt2 : k < 16
      · obtain ⟨ad, u, rfl, hu, hcu⟩ := (HR.out.new hnw).at_ hlt
        obtain ⟨x, hx, rfl⟩ := is_at hu
        have hxr := HZ.out x (List.mem_of_getElem? hx)
        have hadl := cell_lt' hcu
        have HT := Lib.hid (show (l.take (k + 1)).map opOf = (l.take k).map opOf ++ [opOf x] by
          rw [List.take_add_one, hx]
          simp)
        obtain ⟨hn1, hn2⟩ := aroundI_range (x.tdiv 16) 4096 (by omega)
        obtain ⟨ha1, ha2⟩ := aroundI_range x 16 (by omega)
        obtain ⟨q, hq⟩ : ∃ q : Nat, aroundI (x.tdiv 16) 4096 = (q : Int) := ⟨_, (Int.toNat_of_nonneg hn1).symm⟩
        obtain ⟨a, ha⟩ : ∃ a : Nat, aroundI x 16 = (a : Int) := ⟨_, (Int.toNat_of_nonneg ha1).symm⟩
        have hoN : opN x = q := by unfold opN; rw [hq]; rfl
        have hoA : opA x = a := by unfold opA; rw [ha]; rfl
        have HQ := Lib.hid hq
        have HA := Lib.hid ha
        rw [hq] at hn2
        rw [ha] at ha2
        have hxd := tdiv16 hxr
        have HX := Lib.hid hx
        clear hn1 ha1 hq ha hu hx hnw
        go_wp2_with fail
        refine (around_any (x.tdiv 16) 4096 _ hxd.1 hxd.2 (by omega) (by omega)).mono ?_
        rw [HQ.out]
        rintro e w2 ⟨rfl, rfl⟩
        go_wp2_with fail
        refine Calls.new1 fun W hB hNW hzW => ?_
        refine (around_any x 16 W hxr.1 hxr.2 (by omega) (by omega)).mono ?_
        rw [HA.out]
        rintro e w3 ⟨rfl, rfl⟩
        have HAPP := Lib.hid (show ∀ (W' : World) (cs : List Value) (g : Nat), W'.heap.size = g → New wr W' → OpC W' (fun k => wr.heap.size ≤ k ∧ k < W'.heap.size) cs (opOf x) → ∃ v' w', (Builtin.append_ #[44, 44] 44 #[u3, .slice (some ⟨g, 0, none⟩) 1 1]).run Try.prog (W'.alloc (.cells cs.toArray 48)) = .ok v' w' ∧ OpsV w' w.heap.size v' ((l.take (k + 1)).map opOf) ∧ New w w' from fun W' cs g hg h1 h2 => by
          subst hg
          have hA : New W' (W'.alloc (.cells cs.toArray 48)) := (Chg.refl _ _).alloc _
          obtain ⟨v', w', q1, q2, q3⟩ := HO.out.app (lo := w.heap.size) hz1 (h1.trans hA (fun _ _ h => h)) (g := W'.heap.size) (h2.chg hA (fun _ _ h => h) (fun k hk => ⟨hk.1, Nat.lt_of_lt_of_le hk.2 hA.size⟩)) (fun j u hu => (Blk.new W' 48 cs.toArray).cell j (by simpa using hu)) (by simp; omega)
          refine ⟨v', w', q1, by rw [HT.out]; exact q2, (HN.out.trans (h1.trans hA (fun _ _ h => h)) (fun _ _ h => h) : New w _).trans q3 (fun k hk e => ?_)⟩
          obtain ⟨css, h10, _⟩ := HO.out
          have := (ownsRow_block h10 e).1
          omega)
        have hb0 := hB.cell 0 (u := .int .i64 0) rfl
        have hb1 := hB.cell 1 (u := .int .i64 ((q : Int) % 3)) rfl
        have hb2 := hB.cell 2 (u := .int .i64 0) rfl
        have hb3 := hB.cell 3 (u := .slice none 0 0) rfl
        have hb4 := hB.cell 4 (u := .slice none 0 0) rfl
        have hgl := hB.lt
        have HB := Lib.hid hB
        have HNW := Lib.hid hNW
        rcases (show a = 0 ∨ a = 1 ∨ a = 2 ∨ a = 3 ∨ a = 4 ∨ a = 5 ∨ a = 6 ∨ 7 ≤ a by omega) with rfl | rfl | rfl | rfl | rfl | rfl | rfl | ha7
        · have hf0 := hB.frozen 0
          have e : opOf x = ⟨1, (q : Int) % 3, 0, [], []⟩ := by rw [opOf1 (by omega), hoN]; simp
          obtain ⟨v', w', hrun, hov2, hnw2⟩ := HAPP.out (W.setCell ⟨wr.heap.size, 0, none⟩ (.int .i64 1)) [.int .i64 1, .int .i64 ((q : Int) % 3), .int .i64 0, .slice none 0 0, .slice none 0 0] (wr.heap.size + 1) (by simp [hzW]) (HNW.out.trans ((Chg.refl (fun k => k = wr.heap.size) _).setCell (p := ⟨wr.heap.size, 0, none⟩) (fun _ => rfl) _) (fun k hk e => by omega)) (by rw [e]; exact OpC.lit)
          clear hB e
          go_wp2_with (at_builtin; refine wpList_appV rfl _ _ _ rfl rfl rfl hrun ?_)
          go_roundw
          case rel => exact ⟨k + 1, by omega, by omega, by go_num, hov2, hnw2⟩
          case measure => simp [intOf]; omega
        · have hf0 := hB.frozen 0
          have e : opOf x = ⟨1, (q : Int) % 3, 0, [], []⟩ := by rw [opOf1 (by omega), hoN]; simp
          obtain ⟨v', w', hrun, hov2, hnw2⟩ := HAPP.out (W.setCell ⟨wr.heap.size, 0, none⟩ (.int .i64 1)) [.int .i64 1, .int .i64 ((q : Int) % 3), .int .i64 0, .slice none 0 0, .slice none 0 0] (wr.heap.size + 1) (by simp [hzW]) (HNW.out.trans ((Chg.refl (fun k => k = wr.heap.size) _).setCell (p := ⟨wr.heap.size, 0, none⟩) (fun _ => rfl) _) (fun k hk e => by omega)) (by rw [e]; exact OpC.lit)
          clear hB e
          go_wp2_with (at_builtin; refine wpList_appV rfl _ _ _ rfl rfl rfl hrun ?_)
          go_roundw
          case rel => exact ⟨k + 1, by omega, by omega, by go_num, hov2, hnw2⟩
          case measure => simp [intOf]; omega
        · have hf0 := hB.frozen 0
          have hf2 := hB.frozen 2
          have e : opOf x = ⟨2, (q : Int) % 3, (q : Int) / 3 % 9 - 1, [], []⟩ := by rw [opOf2 (by omega), hoN]; simp
          obtain ⟨v', w', hrun, hov2, hnw2⟩ := HAPP.out ((W.setCell ⟨wr.heap.size, 0, none⟩ (.int .i64 2)).setCell ⟨wr.heap.size, 2, none⟩ (.int .i64 ((q : Int) / 3 % 9 - 1))) [.int .i64 2, .int .i64 ((q : Int) % 3), .int .i64 ((q : Int) / 3 % 9 - 1), .slice none 0 0, .slice none 0 0] (wr.heap.size + 1) (by simp [hzW]) (HNW.out.trans (((Chg.refl (fun k => k = wr.heap.size) _).setCell (p := ⟨wr.heap.size, 0, none⟩) (fun _ => rfl) _).setCell (p := ⟨wr.heap.size, 2, none⟩) (fun _ => rfl) _) (fun k hk e => by omega)) (by rw [e]; exact OpC.lit)
          clear hB e
          go_wp2_with (at_builtin; refine wpList_appV rfl _ _ _ rfl rfl rfl hrun ?_)
          go_roundw
          case rel => exact ⟨k + 1, by omega, by omega, by go_num, hov2, hnw2⟩
          case measure => simp [intOf]; omega
        · have hf0 := hB.frozen 0
          have hf2 := hB.frozen 2
          have e : opOf x = ⟨3, (q : Int) % 3, (q : Int) / 3 % 7 - 1, [], []⟩ := by rw [opOf3 (by omega), hoN]; simp
          obtain ⟨v', w', hrun, hov2, hnw2⟩ := HAPP.out ((W.setCell ⟨wr.heap.size, 0, none⟩ (.int .i64 3)).setCell ⟨wr.heap.size, 2, none⟩ (.int .i64 ((q : Int) / 3 % 7 - 1))) [.int .i64 3, .int .i64 ((q : Int) % 3), .int .i64 ((q : Int) / 3 % 7 - 1), .slice none 0 0, .slice none 0 0] (wr.heap.size + 1) (by simp [hzW]) (HNW.out.trans (((Chg.refl (fun k => k = wr.heap.size) _).setCell (p := ⟨wr.heap.size, 0, none⟩) (fun _ => rfl) _).setCell (p := ⟨wr.heap.size, 2, none⟩) (fun _ => rfl) _) (fun k hk e => by omega)) (by rw [e]; exact OpC.lit)
          clear hB e
          go_wp2_with (at_builtin; refine wpList_appV rfl _ _ _ rfl rfl rfl hrun ?_)
          go_roundw
          case rel => exact ⟨k + 1, by omega, by omega, by go_num, hov2, hnw2⟩
          case measure => simp [intOf]; omega
        · obtain ⟨m, hm⟩ : ∃ m, q / 125 % 4 = m := ⟨_, rfl⟩
          have hm4 : m ≤ 3 := by omega
          have hmi : (q : Int) / 125 % 4 = (m : Int) := by omega
          have hf0 := hB.frozen 0
          have hf2 := hB.frozen 2
          have hf4 := hB.frozen 4
          have e : opOf x = ⟨4, (q : Int) % 3, (q : Int) / 4 % 40 - 4, [], [(q : Int) % 5 - 1, (q : Int) / 5 % 5, (q : Int) / 25 % 5].take m⟩ := by rw [opOf4 (by omega), hoN, hm]; simp
          have hz1' : ((((W.setCell ⟨wr.heap.size, 0, none⟩ (.int .i64 4)).setCell ⟨wr.heap.size, 2, none⟩ (.int .i64 ((q : Int) / 4 % 40 - 4))).setCell ⟨wr.heap.size, 4, none⟩ (.slice (some ⟨wr.heap.size + 1, 0, none⟩) 3 3)).setCell ⟨wr.heap.size, 4, none⟩ (.slice (some ⟨wr.heap.size + 1, 0, none⟩) m 3)).heap.size = wr.heap.size + 1 := by simp [hzW]
          have hL2 : Blk (((((W.setCell ⟨wr.heap.size, 0, none⟩ (.int .i64 4)).setCell ⟨wr.heap.size, 2, none⟩ (.int .i64 ((q : Int) / 4 % 40 - 4))).setCell ⟨wr.heap.size, 4, none⟩ (.slice (some ⟨wr.heap.size + 1, 0, none⟩) 3 3)).setCell ⟨wr.heap.size, 4, none⟩ (.slice (some ⟨wr.heap.size + 1, 0, none⟩) m 3)).alloc (.cells [.int .i64 ((q : Int) % 5 - 1), .int .i64 ((q : Int) / 5 % 5), .int .i64 ((q : Int) / 25 % 5)].toArray 3)) (wr.heap.size + 1) 3 [.int .i64 ((q : Int) % 5 - 1), .int .i64 ((q : Int) / 5 % 5), .int .i64 ((q : Int) / 25 % 5)].toArray := (by have h := Blk.new ((((W.setCell ⟨wr.heap.size, 0, none⟩ (.int .i64 4)).setCell ⟨wr.heap.size, 2, none⟩ (.int .i64 ((q : Int) / 4 % 40 - 4))).setCell ⟨wr.heap.size, 4, none⟩ (.slice (some ⟨wr.heap.size + 1, 0, none⟩) 3 3)).setCell ⟨wr.heap.size, 4, none⟩ (.slice (some ⟨wr.heap.size + 1, 0, none⟩) m 3)) 3 [.int .i64 ((q : Int) % 5 - 1), .int .i64 ((q : Int) / 5 % 5), .int .i64 ((q : Int) / 25 % 5)].toArray; rwa [hz1'] at h)
          have hN1 : Chg (fun k => k = wr.heap.size) W (((((W.setCell ⟨wr.heap.size, 0, none⟩ (.int .i64 4)).setCell ⟨wr.heap.size, 2, none⟩ (.int .i64 ((q : Int) / 4 % 40 - 4))).setCell ⟨wr.heap.size, 4, none⟩ (.slice (some ⟨wr.heap.size + 1, 0, none⟩) 3 3)).setCell ⟨wr.heap.size, 4, none⟩ (.slice (some ⟨wr.heap.size + 1, 0, none⟩) m 3)).alloc (.cells [.int .i64 ((q : Int) % 5 - 1), .int .i64 ((q : Int) / 5 % 5), .int .i64 ((q : Int) / 25 % 5)].toArray 3)) := ((((((Chg.refl (fun k => k = wr.heap.size) _).setCell (p := ⟨wr.heap.size, 0, none⟩) (fun _ => rfl) _).setCell (p := ⟨wr.heap.size, 2, none⟩) (fun _ => rfl) _).setCell (p := ⟨wr.heap.size, 4, none⟩) (fun _ => rfl) _).setCell (p := ⟨wr.heap.size, 4, none⟩) (fun _ => rfl) _).alloc _)
          have hT : ∀ k, blk (some (⟨wr.heap.size + 1, 0, none⟩ : Addr)) = some k → wr.heap.size ≤ k ∧ k < (((((W.setCell ⟨wr.heap.size, 0, none⟩ (.int .i64 4)).setCell ⟨wr.heap.size, 2, none⟩ (.int .i64 ((q : Int) / 4 % 40 - 4))).setCell ⟨wr.heap.size, 4, none⟩ (.slice (some ⟨wr.heap.size + 1, 0, none⟩) 3 3)).setCell ⟨wr.heap.size, 4, none⟩ (.slice (some ⟨wr.heap.size + 1, 0, none⟩) m 3)).alloc (.cells [.int .i64 ((q : Int) % 5 - 1), .int .i64 ((q : Int) / 5 % 5), .int .i64 ((q : Int) / 25 % 5)].toArray 3)).heap.size := fun k hk => by (have hk : wr.heap.size + 1 = k := (by simpa [blk] using hk); have := hL2.lt; omega)
          obtain ⟨v', w', hrun, hov2, hnw2⟩ := HAPP.out (((((W.setCell ⟨wr.heap.size, 0, none⟩ (.int .i64 4)).setCell ⟨wr.heap.size, 2, none⟩ (.int .i64 ((q : Int) / 4 % 40 - 4))).setCell ⟨wr.heap.size, 4, none⟩ (.slice (some ⟨wr.heap.size + 1, 0, none⟩) 3 3)).setCell ⟨wr.heap.size, 4, none⟩ (.slice (some ⟨wr.heap.size + 1, 0, none⟩) m 3)).alloc (.cells [.int .i64 ((q : Int) % 5 - 1), .int .i64 ((q : Int) / 5 % 5), .int .i64 ((q : Int) / 25 % 5)].toArray 3)) [.int .i64 4, .int .i64 ((q : Int) % 3), .int .i64 ((q : Int) / 4 % 40 - 4), .slice none 0 0, .slice (some ⟨wr.heap.size + 1, 0, none⟩) m 3] (wr.heap.size + 1 + 1) (by simp [hzW]) (HNW.out.trans hN1 (fun k hk e => by omega)) (by rw [e]; exact ⟨none, 0, some ⟨wr.heap.size + 1, 0, none⟩, 3, by simp; omega, Rd.nil _ _, Nat.le_refl _, by have h := rd_take hL2 (m := m) (by simp; omega); rw [show (List.take m [(q : Int) % 5 - 1, (q : Int) / 5 % 5, (q : Int) / 25 % 5]).length = m by rw [List.length_take]; simp; omega]; simpa [is, List.map_take] using h, fun k hk => hk.elim (fun h => by cases h) (fun h => hT k h)⟩)
          have hq4 := ((((hB.set_ 0 (.int .i64 4)).set_ 2 (.int .i64 ((q : Int) / 4 % 40 - 4))).set_ 4 (.slice (some ⟨wr.heap.size + 1, 0, none⟩) 3 3)).set_ 4 (.slice (some ⟨wr.heap.size + 1, 0, none⟩) m 3)).cell 4 (u := .slice (some ⟨wr.heap.size + 1, 0, none⟩) m 3) (by simp)
          have hq5 : (((((W.setCell ⟨wr.heap.size, 0, none⟩ (.int .i64 4)).setCell ⟨wr.heap.size, 2, none⟩ (.int .i64 ((q : Int) / 4 % 40 - 4))).setCell ⟨wr.heap.size, 4, none⟩ (.slice (some ⟨wr.heap.size + 1, 0, none⟩) 3 3)).setCell ⟨wr.heap.size, 4, none⟩ (.slice (some ⟨wr.heap.size + 1, 0, none⟩) m 3)).alloc (.cells [.int .i64 ((q : Int) % 5 - 1), .int .i64 ((q : Int) / 5 % 5), .int .i64 ((q : Int) / 25 % 5)].toArray 3)).cell? ⟨wr.heap.size, 4, none⟩ = some (.slice (some ⟨wr.heap.size + 1, 0, none⟩) m 3) := (((((hB.set_ 0 (.int .i64 4)).set_ 2 (.int .i64 ((q : Int) / 4 % 40 - 4))).set_ 4 (.slice (some ⟨wr.heap.size + 1, 0, none⟩) 3 3)).set_ 4 (.slice (some ⟨wr.heap.size + 1, 0, none⟩) m 3)).alloc (.cells [.int .i64 ((q : Int) % 5 - 1), .int .i64 ((q : Int) / 5 % 5), .int .i64 ((q : Int) / 25 % 5)].toArray 3)).cell 4 (u := .slice (some ⟨wr.heap.size + 1, 0, none⟩) m 3) (by simp)
          clear hB e hL2 hN1 hT hz1' hm
          go_wp2_with (at_builtin; refine wpList_appV rfl _ _ _ rfl rfl rfl hrun ?_)
          go_roundw
          case rel => exact ⟨k + 1, by omega, by omega, by go_num, hov2, hnw2⟩
          case measure => simp [intOf]; omega
        · obtain ⟨m, hm⟩ : ∃ m, q / 125 % 4 = m := ⟨_, rfl⟩
          have hm4 : m ≤ 3 := by omega
          have hmi : (q : Int) / 125 % 4 = (m : Int) := by omega
          have hf0 := hB.frozen 0
          have hf2 := hB.frozen 2
          have hf4 := hB.frozen 4
          have e : opOf x = ⟨4, (q : Int) % 3, (q : Int) / 4 % 40 - 4, [], [(q : Int) % 5 - 1, (q : Int) / 5 % 5, (q : Int) / 25 % 5].take m⟩ := by rw [opOf4 (by omega), hoN, hm]; simp
          have hz1' : ((((W.setCell ⟨wr.heap.size, 0, none⟩ (.int .i64 4)).setCell ⟨wr.heap.size, 2, none⟩ (.int .i64 ((q : Int) / 4 % 40 - 4))).setCell ⟨wr.heap.size, 4, none⟩ (.slice (some ⟨wr.heap.size + 1, 0, none⟩) 3 3)).setCell ⟨wr.heap.size, 4, none⟩ (.slice (some ⟨wr.heap.size + 1, 0, none⟩) m 3)).heap.size = wr.heap.size + 1 := by simp [hzW]
          have hL2 : Blk (((((W.setCell ⟨wr.heap.size, 0, none⟩ (.int .i64 4)).setCell ⟨wr.heap.size, 2, none⟩ (.int .i64 ((q : Int) / 4 % 40 - 4))).setCell ⟨wr.heap.size, 4, none⟩ (.slice (some ⟨wr.heap.size + 1, 0, none⟩) 3 3)).setCell ⟨wr.heap.size, 4, none⟩ (.slice (some ⟨wr.heap.size + 1, 0, none⟩) m 3)).alloc (.cells [.int .i64 ((q : Int) % 5 - 1), .int .i64 ((q : Int) / 5 % 5), .int .i64 ((q : Int) / 25 % 5)].toArray 3)) (wr.heap.size + 1) 3 [.int .i64 ((q : Int) % 5 - 1), .int .i64 ((q : Int) / 5 % 5), .int .i64 ((q : Int) / 25 % 5)].toArray := (by have h := Blk.new ((((W.setCell ⟨wr.heap.size, 0, none⟩ (.int .i64 4)).setCell ⟨wr.heap.size, 2, none⟩ (.int .i64 ((q : Int) / 4 % 40 - 4))).setCell ⟨wr.heap.size, 4, none⟩ (.slice (some ⟨wr.heap.size + 1, 0, none⟩) 3 3)).setCell ⟨wr.heap.size, 4, none⟩ (.slice (some ⟨wr.heap.size + 1, 0, none⟩) m 3)) 3 [.int .i64 ((q : Int) % 5 - 1), .int .i64 ((q : Int) / 5 % 5), .int .i64 ((q : Int) / 25 % 5)].toArray; rwa [hz1'] at h)
          have hN1 : Chg (fun k => k = wr.heap.size) W (((((W.setCell ⟨wr.heap.size, 0, none⟩ (.int .i64 4)).setCell ⟨wr.heap.size, 2, none⟩ (.int .i64 ((q : Int) / 4 % 40 - 4))).setCell ⟨wr.heap.size, 4, none⟩ (.slice (some ⟨wr.heap.size + 1, 0, none⟩) 3 3)).setCell ⟨wr.heap.size, 4, none⟩ (.slice (some ⟨wr.heap.size + 1, 0, none⟩) m 3)).alloc (.cells [.int .i64 ((q : Int) % 5 - 1), .int .i64 ((q : Int) / 5 % 5), .int .i64 ((q : Int) / 25 % 5)].toArray 3)) := ((((((Chg.refl (fun k => k = wr.heap.size) _).setCell (p := ⟨wr.heap.size, 0, none⟩) (fun _ => rfl) _).setCell (p := ⟨wr.heap.size, 2, none⟩) (fun _ => rfl) _).setCell (p := ⟨wr.heap.size, 4, none⟩) (fun _ => rfl) _).setCell (p := ⟨wr.heap.size, 4, none⟩) (fun _ => rfl) _).alloc _)
          have hT : ∀ k, blk (some (⟨wr.heap.size + 1, 0, none⟩ : Addr)) = some k → wr.heap.size ≤ k ∧ k < (((((W.setCell ⟨wr.heap.size, 0, none⟩ (.int .i64 4)).setCell ⟨wr.heap.size, 2, none⟩ (.int .i64 ((q : Int) / 4 % 40 - 4))).setCell ⟨wr.heap.size, 4, none⟩ (.slice (some ⟨wr.heap.size + 1, 0, none⟩) 3 3)).setCell ⟨wr.heap.size, 4, none⟩ (.slice (some ⟨wr.heap.size + 1, 0, none⟩) m 3)).alloc (.cells [.int .i64 ((q : Int) % 5 - 1), .int .i64 ((q : Int) / 5 % 5), .int .i64 ((q : Int) / 25 % 5)].toArray 3)).heap.size := fun k hk => by (have hk : wr.heap.size + 1 = k := (by simpa [blk] using hk); have := hL2.lt; omega)
          obtain ⟨v', w', hrun, hov2, hnw2⟩ := HAPP.out (((((W.setCell ⟨wr.heap.size, 0, none⟩ (.int .i64 4)).setCell ⟨wr.heap.size, 2, none⟩ (.int .i64 ((q : Int) / 4 % 40 - 4))).setCell ⟨wr.heap.size, 4, none⟩ (.slice (some ⟨wr.heap.size + 1, 0, none⟩) 3 3)).setCell ⟨wr.heap.size, 4, none⟩ (.slice (some ⟨wr.heap.size + 1, 0, none⟩) m 3)).alloc (.cells [.int .i64 ((q : Int) % 5 - 1), .int .i64 ((q : Int) / 5 % 5), .int .i64 ((q : Int) / 25 % 5)].toArray 3)) [.int .i64 4, .int .i64 ((q : Int) % 3), .int .i64 ((q : Int) / 4 % 40 - 4), .slice none 0 0, .slice (some ⟨wr.heap.size + 1, 0, none⟩) m 3] (wr.heap.size + 1 + 1) (by simp [hzW]) (HNW.out.trans hN1 (fun k hk e => by omega)) (by rw [e]; exact ⟨none, 0, some ⟨wr.heap.size + 1, 0, none⟩, 3, by simp; omega, Rd.nil _ _, Nat.le_refl _, by have h := rd_take hL2 (m := m) (by simp; omega); rw [show (List.take m [(q : Int) % 5 - 1, (q : Int) / 5 % 5, (q : Int) / 25 % 5]).length = m by rw [List.length_take]; simp; omega]; simpa [is, List.map_take] using h, fun k hk => hk.elim (fun h => by cases h) (fun h => hT k h)⟩)
          have hq4 := ((((hB.set_ 0 (.int .i64 4)).set_ 2 (.int .i64 ((q : Int) / 4 % 40 - 4))).set_ 4 (.slice (some ⟨wr.heap.size + 1, 0, none⟩) 3 3)).set_ 4 (.slice (some ⟨wr.heap.size + 1, 0, none⟩) m 3)).cell 4 (u := .slice (some ⟨wr.heap.size + 1, 0, none⟩) m 3) (by simp)
          have hq5 : (((((W.setCell ⟨wr.heap.size, 0, none⟩ (.int .i64 4)).setCell ⟨wr.heap.size, 2, none⟩ (.int .i64 ((q : Int) / 4 % 40 - 4))).setCell ⟨wr.heap.size, 4, none⟩ (.slice (some ⟨wr.heap.size + 1, 0, none⟩) 3 3)).setCell ⟨wr.heap.size, 4, none⟩ (.slice (some ⟨wr.heap.size + 1, 0, none⟩) m 3)).alloc (.cells [.int .i64 ((q : Int) % 5 - 1), .int .i64 ((q : Int) / 5 % 5), .int .i64 ((q : Int) / 25 % 5)].toArray 3)).cell? ⟨wr.heap.size, 4, none⟩ = some (.slice (some ⟨wr.heap.size + 1, 0, none⟩) m 3) := (((((hB.set_ 0 (.int .i64 4)).set_ 2 (.int .i64 ((q : Int) / 4 % 40 - 4))).set_ 4 (.slice (some ⟨wr.heap.size + 1, 0, none⟩) 3 3)).set_ 4 (.slice (some ⟨wr.heap.size + 1, 0, none⟩) m 3)).alloc (.cells [.int .i64 ((q : Int) % 5 - 1), .int .i64 ((q : Int) / 5 % 5), .int .i64 ((q : Int) / 25 % 5)].toArray 3)).cell 4 (u := .slice (some ⟨wr.heap.size + 1, 0, none⟩) m 3) (by simp)
          clear hB e hL2 hN1 hT hz1' hm
          go_wp2_with (at_builtin; refine wpList_appV rfl _ _ _ rfl rfl rfl hrun ?_)
          go_roundw
          case rel => exact ⟨k + 1, by omega, by omega, by go_num, hov2, hnw2⟩
          case measure => simp [intOf]; omega
        · have hf1 := hB.frozen 1
          have hf3 := hB.frozen 3
          have e : opOf x = ⟨0, (q : Int) % 70 - 3, 0, [1], []⟩ := by rw [opOf6 (by omega), hoN]; simp
          have hz1' : ((W.setCell ⟨wr.heap.size, 1, none⟩ (.int .i64 ((q : Int) % 70 - 3))).setCell ⟨wr.heap.size, 3, none⟩ (.slice (some ⟨wr.heap.size + 1, 0, none⟩) 1 1)).heap.size = wr.heap.size + 1 := by simp [hzW]
          have hL2 : Blk (((W.setCell ⟨wr.heap.size, 1, none⟩ (.int .i64 ((q : Int) % 70 - 3))).setCell ⟨wr.heap.size, 3, none⟩ (.slice (some ⟨wr.heap.size + 1, 0, none⟩) 1 1)).alloc (.cells [.int .u8 1].toArray 5)) (wr.heap.size + 1) 5 [.int .u8 1].toArray := (by have h := Blk.new ((W.setCell ⟨wr.heap.size, 1, none⟩ (.int .i64 ((q : Int) % 70 - 3))).setCell ⟨wr.heap.size, 3, none⟩ (.slice (some ⟨wr.heap.size + 1, 0, none⟩) 1 1)) 5 [.int .u8 1].toArray; rwa [hz1'] at h)
          have hN1 : Chg (fun k => k = wr.heap.size) W (((W.setCell ⟨wr.heap.size, 1, none⟩ (.int .i64 ((q : Int) % 70 - 3))).setCell ⟨wr.heap.size, 3, none⟩ (.slice (some ⟨wr.heap.size + 1, 0, none⟩) 1 1)).alloc (.cells [.int .u8 1].toArray 5)) := ((((Chg.refl (fun k => k = wr.heap.size) _).setCell (p := ⟨wr.heap.size, 1, none⟩) (fun _ => rfl) _).setCell (p := ⟨wr.heap.size, 3, none⟩) (fun _ => rfl) _).alloc _)
          have hT : ∀ k, blk (some (⟨wr.heap.size + 1, 0, none⟩ : Addr)) = some k → wr.heap.size ≤ k ∧ k < (((W.setCell ⟨wr.heap.size, 1, none⟩ (.int .i64 ((q : Int) % 70 - 3))).setCell ⟨wr.heap.size, 3, none⟩ (.slice (some ⟨wr.heap.size + 1, 0, none⟩) 1 1)).alloc (.cells [.int .u8 1].toArray 5)).heap.size := fun k hk => by (have hk : wr.heap.size + 1 = k := (by simpa [blk] using hk); have := hL2.lt; omega)
          obtain ⟨v', w', hrun, hov2, hnw2⟩ := HAPP.out (((W.setCell ⟨wr.heap.size, 1, none⟩ (.int .i64 ((q : Int) % 70 - 3))).setCell ⟨wr.heap.size, 3, none⟩ (.slice (some ⟨wr.heap.size + 1, 0, none⟩) 1 1)).alloc (.cells [.int .u8 1].toArray 5)) [.int .i64 0, .int .i64 ((q : Int) % 70 - 3), .int .i64 0, .slice (some ⟨wr.heap.size + 1, 0, none⟩) 1 1, .slice none 0 0] (wr.heap.size + 1 + 1) (by simp [hzW]) (HNW.out.trans hN1 (fun k hk e => by omega)) (by rw [e]; exact ⟨some ⟨wr.heap.size + 1, 0, none⟩, 1, none, 0, rfl, by have h := rd_take hL2 (m := 1) (by simp); exact h, Nat.le_refl _, Rd.nil _ _, fun k hk => hk.elim (fun h => hT k h) (fun h => by cases h)⟩)
          clear hB e hL2 hN1 hT hz1' 
          go_wp2_with (at_builtin; refine wpList_appV rfl _ _ _ rfl rfl rfl hrun ?_)
          go_roundw
          case rel => exact ⟨k + 1, by omega, by omega, by go_num, hov2, hnw2⟩
          case measure => simp [intOf]; omega
        · generalize hgO : wr.heap.size = gO at *
          obtain ⟨m, hm⟩ : ∃ m, q / 3 % 6 = m := ⟨_, rfl⟩
          have hm6 : m ≤ 5 := by omega
          have hmi : (q : Int) / 3 % 6 = (m : Int) := by omega
          have e : opOf x = ⟨0, (q : Int) % 3, 0, (List.range m).map (shB x), []⟩ := by rw [opOf7 (by omega), hoN, hm]; simp
          have ha_0 : ((a : Int) == 0) = false := by simp; omega
          have ha_1 : ((a : Int) == 1) = false := by simp; omega
          have ha_2 : ((a : Int) == 2) = false := by simp; omega
          have ha_3 : ((a : Int) == 3) = false := by simp; omega
          have ha_4 : ((a : Int) == 4) = false := by simp; omega
          have ha_5 : ((a : Int) == 5) = false := by simp; omega
          have ha_6 : ((a : Int) == 6) = false := by simp; omega
          have HE := Lib.hid e
          have HGO := Lib.hid hgO
          have hzl : gO ≤ W.heap.size := by omega
          clear hm e hb0 hb1 hb2 hb3 hb4 hB hgO
          go_wp2_with fail
          go_loopw [7] (fun v wr2 => ∃ (j : Nat) (A2 : Option Addr) (c2 : Nat), j ≤ m ∧ v = .int .i64 (j : Int) ∧ Hid (Blk wr2 gO 48 #[.int .i64 0, .int .i64 ((q : Int) % 3), .int .i64 0, .slice A2 j c2, .slice none 0 0]) ∧ Hid (RowV wr2 5 IsU8 (.slice A2 j c2) (bs ((List.range j).map (shB x)))) ∧ (∀ k, blkV (.slice A2 j c2) = some k → gO < k) ∧ Hid (New wr wr2)) (fun v _ => m - (intOf v).toNat)
          case atStart => exact ⟨0, none, 0, Nat.zero_le _, rfl, HB, Lib.hid (RowV.nil _ _ _), (fun k hk => by cases hk), HNW⟩
          case round =>
            clear hcu hadl hgl hzW hzl
            obtain ⟨j, A2, c2, hj, rfl, HB2, HR2, hbk2, HN2⟩ := hrel
            obtain ⟨ad2, u2, had, hu2, hcu⟩ := (HR.out.new (HN.out.trans HN2.out (fun _ _ h => h))).at_ hlt
            injection had with had
            subst had
            obtain ⟨x2, hx2, rfl⟩ := is_at hu2
            obtain rfl : x = x2 := by rw [HX.out] at hx2; injection hx2
            have hadl := cell_lt' hcu
            have hgl := HB2.out.lt
            clear hu2 hx2
            have hb3 := HB2.out.cell 3 (u := .slice A2 j c2) rfl
            have hf3 := HB2.out.frozen 3
            by_cases hjm : j < m
            · have hw1 : IntKind.u64.wrap (j : Int) = (j : Int) := by rw [IntKind.wrap_u64]; omega
              obtain ⟨y, hy⟩ : ∃ y, shB x j = y := ⟨_, rfl⟩
              have hwb : IntKind.u8.wrap (x / 2 ^ j) = (y.toNat : Int) := by rw [← hy]; exact wrap_shB x j
              have HBL := Lib.hid (HB2.out.drew.alloc (.cells #[.int .u8 (y.toNat : Int)] 5))
              obtain ⟨A3, c3, w4, hrun, hrow4, hbk4, hch4⟩ := shB_app HR2.out hy (show j ≤ 5 by omega)
              have hb34 := HBL.out.chg hch4 (fun e => by have := hbk2 _ e; omega)
              have hbk5 : ∀ k, blkV (.slice A3 (j + 1) c3) = some k → gO < k := fun k hk => (hbk4 k hk).elim (hbk2 k) (fun h => by omega)
              have hf34 := hb34.frozen 3
              have hb44 := hb34.cell 3 (u := .slice A2 j c2) rfl
              have hgl4 := hb34.lt
              have HB4 := Lib.hid (hb34.set_ 3 (.slice A3 (j + 1) c3))
              have HR4 := Lib.hid (hrow4.chg ((Chg.refl (fun k => k = gO) w4).setCell (p := ⟨gO, 3, none⟩) (fun _ => rfl) (.slice A3 (j + 1) c3)) (fun k hk e => by rcases hbk4 k hk with h | h; exact absurd (hbk2 k h) (by omega); omega))
              have HN4 := Lib.hid (((HN2.out.trans ((Chg.refl _ wr).drew.alloc (.cells #[.int .u8 (y.toNat : Int)] 5) : New wr _) (fun _ _ h => h)).trans hch4 (fun k hk e => by have := hbk2 k e; have := HGO.out; omega)).trans ((Chg.refl (fun k => k = gO) w4).setCell (p := ⟨gO, 3, none⟩) (fun _ => rfl) (.slice A3 (j + 1) c3)) (fun k hk e => by have := HGO.out; omega))
              clear hb34 hrow4 hch4 hy
              go_wp2_with fail
              go_region_law (refine step_appV rfl _ _ _ rfl rfl rfl hrun ?_)
              · go_wp2
                go_roundw
                case rel => exact ⟨j + 1, A3, c3, by omega, by go_num, HB4, HR4, hbk5, HN4⟩
                case measure => simp [intOf]; omega
              · go_wp2
                go_roundw
                case rel => exact ⟨j + 1, A3, c3, by omega, by go_num, HB4, HR4, hbk5, HN4⟩
                case measure => simp [intOf]; omega
              · go_wp2
                go_roundw
                case rel => exact ⟨j + 1, A3, c3, by omega, by go_num, HB4, HR4, hbk5, HN4⟩
                case measure => simp [intOf]; omega
            · have hjm : j = m := by omega
              subst hjm
              have hb0 := HB2.out.cell 0 (u := .int .i64 0) rfl
              have hb1 := HB2.out.cell 1 (u := .int .i64 ((q : Int) % 3)) rfl
              have hb2 := HB2.out.cell 2 (u := .int .i64 0) rfl
              have hb4 := HB2.out.cell 4 (u := .slice none 0 0) rfl
              obtain ⟨A5, c5, hs5, hc5, _⟩ := HR2.out.shape
              have hl5 : (bs ((List.range j).map (shB x))).length = j := by simp
              rw [hl5] at hs5 hc5
              injection hs5 with h51 h52 h53
              subst h51 h53
              have hop : OpC wr (fun k => gO ≤ k ∧ k < wr.heap.size) [.int .i64 0, .int .i64 ((q : Int) % 3), .int .i64 0, .slice A2 j c2, .slice none 0 0] (opOf x) := by
                rw [HE.out]
                refine ⟨A2, c2, none, 0, by simp, by simpa using HR2.out.rd, by simpa using hc5, Rd.nil _ _, fun k hk => ?_⟩
                rcases hk with hk | hk
                · exact ⟨Nat.le_of_lt (hbk2 k hk), HR2.out.lt hk⟩
                · cases hk
              obtain ⟨v', w', hrun, hov2, hnw2⟩ := HAPP.out wr _ wr.heap.size rfl HN2.out hop
              clear hop hl5 hc5
              go_wp2_with (at_builtin; refine wpList_appV rfl _ _ _ rfl rfl rfl hrun ?_)
              go_roundw
              case rel => exact ⟨k + 1, by omega, by omega, by go_num, hov2, hnw2⟩
              case measure => simp [intOf]; omega
      · obtain rfl : k = 16 := by omega
        clear hnw
        go_wp2
        go_ret
        exact ⟨_, rfl, by unfold opsL; exact HO.out, HN.out⟩
    · obtain rfl : k = n := by omega
      clear hnw
      go_wp2
      go_ret
      refine ⟨_, rfl, ?_, HN.out⟩
      have e : l.take k = l.take 16 := by rw [List.take_of_length_le (by rw [HL.out]; omega), List.take_of_length_le (by rw [HL.out]; omega)]
      unfold opsL
      rw [← e]
      exact HO.out
end Go.Proofs.Ytdflpcbkkpgnlaa
