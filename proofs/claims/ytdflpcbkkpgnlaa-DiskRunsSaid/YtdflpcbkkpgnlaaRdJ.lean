/- The operations that the reference makes of ints: the plain list; a row of them in memory. -/
import Derived.Test.YtdflpcbkkpgnlaaRdI
import Derived.Maps.AppendAt
namespace Go.Dk
/-- The number out of which an operation's parts are made. -/
def opN (x : Int) : Nat := (Go.Proofs.Ytdflpcbkkpgnlaa.aroundI (x.tdiv 16) 4096).toNat
def opA (x : Int) : Nat := (Go.Proofs.Ytdflpcbkkpgnlaa.aroundI x 16).toNat
/-- A byte of x. -/
def shB (x : Int) (k : Nat) : UInt8 := UInt8.ofNat ((x / 2 ^ k) % 256).toNat
def opOf (x : Int) : Op :=
  if opA x ≤ 1 then ⟨1, (opN x % 3 : Nat), 0, [], []⟩ else if opA x = 2 then ⟨2, (opN x % 3 : Nat), (opN x / 3 % 9 : Nat) - 1, [], []⟩ else if opA x = 3 then ⟨3, (opN x % 3 : Nat), (opN x / 3 % 7 : Nat) - 1, [], []⟩ else
  if opA x ≤ 5 then ⟨4, (opN x % 3 : Nat), (opN x / 4 % 40 : Nat) - 4, [], [((opN x % 5 : Nat) : Int) - 1, ((opN x / 5 % 5 : Nat) : Int), ((opN x / 25 % 5 : Nat) : Int)].take (opN x / 125 % 4)⟩ else
  if opA x = 6 then ⟨0, (opN x % 70 : Nat) - 3, 0, [1], []⟩ else ⟨0, (opN x % 3 : Nat), 0, (List.range (opN x / 3 % 6)).map (shB x), []⟩
def opsL (l : List Int) : List Op := (l.take 16).map opOf
section
variable {x : Int}
theorem opOf1 (h : opA x ≤ 1) : opOf x = ⟨1, (opN x % 3 : Nat), 0, [], []⟩ := if_pos h
theorem opOf2 (h : opA x = 2) : opOf x = ⟨2, (opN x % 3 : Nat), (opN x / 3 % 9 : Nat) - 1, [], []⟩ := by unfold opOf; rw [if_neg (by omega), if_pos h]
theorem opOf3 (h : opA x = 3) : opOf x = ⟨3, (opN x % 3 : Nat), (opN x / 3 % 7 : Nat) - 1, [], []⟩ := by unfold opOf; rw [if_neg (by omega), if_neg (by omega), if_pos h]
theorem opOf4 (h : opA x = 4 ∨ opA x = 5) : opOf x = ⟨4, (opN x % 3 : Nat), (opN x / 4 % 40 : Nat) - 4, [], [((opN x % 5 : Nat) : Int) - 1, ((opN x / 5 % 5 : Nat) : Int), ((opN x / 25 % 5 : Nat) : Int)].take (opN x / 125 % 4)⟩ := by unfold opOf; rw [if_neg (by omega), if_neg (by omega), if_neg (by omega), if_pos (by omega)]
theorem opOf6 (h : opA x = 6) : opOf x = ⟨0, (opN x % 70 : Nat) - 3, 0, [1], []⟩ := by unfold opOf; rw [if_neg (by omega), if_neg (by omega), if_neg (by omega), if_neg (by omega), if_pos h]
theorem opOf7 (h : 7 ≤ opA x) : opOf x = ⟨0, (opN x % 3 : Nat), 0, (List.range (opN x / 3 % 6)).map (shB x), []⟩ := by unfold opOf; rw [if_neg (by omega), if_neg (by omega), if_neg (by omega), if_neg (by omega), if_neg (by omega)]
end
theorem opOf_ok (x : Int) : (opOf x).Ok := by
  have h1 := Go.Proofs.Ytdflpcbkkpgnlaa.aroundI_range (x.tdiv 16) 4096 (by omega)
  have h2 : opN x < 4096 := by unfold opN; omega
  rcases (show opA x ≤ 1 ∨ opA x = 2 ∨ opA x = 3 ∨ (opA x = 4 ∨ opA x = 5) ∨ opA x = 6 ∨ 7 ≤ opA x by omega) with h | h | h | h | h | h
  · rw [opOf1 h]; exact ⟨by simp, by simp; omega, by simp, by simp, by simp, by simp⟩
  · rw [opOf2 h]; exact ⟨by simp, by simp; omega, by simp; omega, by simp, by simp, by simp⟩
  · rw [opOf3 h]; exact ⟨by simp, by simp; omega, by simp; omega, by simp, by simp, by simp⟩
  · rw [opOf4 h]
    refine ⟨by simp, by simp; omega, by simp; omega, by simp, ?_, fun z hz => ?_⟩
    · show (List.take _ _).length ≤ _
      rw [List.length_take]; simp; omega
    · have hz := List.mem_of_mem_take hz
      simp at hz
      rcases hz with rfl | rfl | rfl <;> omega
  · rw [opOf6 h]; exact ⟨by simp, by simp; omega, by simp, by simp, by simp, by simp⟩
  · rw [opOf7 h]; exact ⟨by simp, by simp; omega, by simp, by simp; omega, by simp, by simp⟩
theorem opsL_ok {l : List Int} {k : Nat} {o : Op} (h : (opsL l)[k]? = some o) : o.Ok := by
  unfold opsL at h
  rw [List.getElem?_map] at h
  cases hx : (l.take 16)[k]? with
  | none => rw [hx] at h; cases h
  | some x => rw [hx] at h; injection h with h; rw [← h]; exact opOf_ok x
theorem opsL_len (l : List Int) : (opsL l).length = min 16 l.length := by unfold opsL; rw [List.length_map, List.length_take]
end Go.Dk
namespace Go.Proofs.Ytdflpcbkkpgnlaa
set_option linter.unusedVariables false
open Go.RowKit Go.Mem Go.Dk

/-- The cells of an operation; its slices lie in blocks of T. -/
def OpC (w : World) (T : Nat → Prop) (cs : List Value) (o : Dk.Op) : Prop :=
  ∃ A ca K ck, cs = [.int .i64 o.kind, .int .i64 o.file, .int .i64 o.n, .slice A o.b.length ca, .slice K o.keep.length ck] ∧ Rd w A o.b.length (bs o.b) ∧ o.b.length ≤ ca ∧ Rd w K o.keep.length (is o.keep) ∧ ∀ k, (blk A = some k ∨ blk K = some k) → T k
/-- A row of operations, the call's own. -/
def OpsV (w : World) (lo : Nat) (v : Value) (os : List Dk.Op) : Prop :=
  ∃ css : List (List Value), w.ownsRow lo 48 5 v os.length css.flatten ∧ css.length = os.length ∧ ∀ (j : Nat) (o : Dk.Op), os[j]? = some o → ∃ cs, css[j]? = some cs ∧ OpC w (fun k => lo ≤ k ∧ k < w.heap.size ∧ v.ownBlock ≠ some k) cs o
section
variable {w w' : World} {T T' : Nat → Prop} {cs : List Value} {o : Dk.Op} {lo : Nat} {v : Value} {os : List Dk.Op}
theorem OpC.chg {S : Nat → Prop} (h : OpC w T cs o) (hc : Chg S w w') (hs : ∀ k, T k → ¬ S k) (ht : ∀ k, T k → T' k) : OpC w' T' cs o := by
  obtain ⟨A, ca, K, ck, h1, h2, h3, h4, h5⟩ := h
  exact ⟨A, ca, K, ck, h1, h2.chg hc (fun k hk _ => hs k (h5 k (Or.inl hk))), h3, h4.chg hc (fun k hk _ => hs k (h5 k (.inr hk))), fun k hk => ht k (h5 k hk)⟩
theorem OpC.len (h : OpC w T cs o) : cs.length = 5 := by
  obtain ⟨A, ca, K, ck, rfl, _⟩ := h
  rfl
theorem OpsV.nil (w : World) (lo : Nat) : OpsV w lo (.slice none 0 0) [] := ⟨[], World.ownsRow_nil w lo _ _, rfl, fun j o h => by simp at h⟩
theorem ownsRow_block {base : Nat} {e : TypeId} {size n : Nat} {xs : List Value} (h : w.ownsRow base e size v n xs) {k : Nat} (hk : v.ownBlock = some k) : base ≤ k ∧ k < w.heap.size := by
  rcases h.2 with ⟨rfl, _⟩ | ⟨g, cap, cur, rfl, hb, hg, _⟩
  · cases hk
  · have e : g = k := by simpa [Value.ownBlock] using hk
    subst e
    exact ⟨hb, (Array.getElem?_eq_some_iff.1 hg).1⟩
theorem ownsRow_chg {base : Nat} {e : TypeId} {size n : Nat} {xs : List Value} {S : Nat → Prop} (h : w.ownsRow base e size v n xs) (hc : Chg S w w') (hs : ∀ k, v.ownBlock = some k → ¬ S k) : w'.ownsRow base e size v n xs := by
  refine ⟨h.1, ?_⟩
  rcases h.2 with h0 | ⟨g, cap, cur, rfl, hb, hg, h1, h2, h3, h4⟩
  · exact .inl h0
  · exact .inr ⟨g, cap, cur, rfl, hb, Blk.chg (cs := cur) hg hc (hs g rfl), h1, h2, h3, h4⟩
theorem OpsV.new (h : OpsV w lo v os) (hn : New w w') : OpsV w' lo v os := by
  obtain ⟨css, h1, h2, h3⟩ := h
  refine ⟨css, ownsRow_chg h1 hn (fun _ _ h => h), h2, fun j o ho => ?_⟩
  obtain ⟨cs, h4, h5⟩ := h3 j o ho
  exact ⟨cs, h4, h5.chg hn (fun _ _ h => h) (fun k hk => ⟨hk.1, Nat.lt_of_lt_of_le hk.2.1 hn.size, hk.2.2⟩)⟩
theorem flat_len {css : List (List Value)} (h : ∀ cs ∈ css, cs.length = 5) : css.flatten.length = css.length * 5 := by
  induction css with
  | nil => rfl
  | cons c r ih =>
    rw [List.flatten_cons, List.length_append, h c (by simp), ih (fun c hc => h c (by simp [hc])), List.length_cons]
    omega
/-- One more operation. -/
theorem OpsV.app {lo : Nat} (h : OpsV w lo v os) (hlo : lo ≤ w.heap.size) {W : World} (hW : New w W) {g : Nat} (hc : OpC W (fun k => w.heap.size ≤ k ∧ k < W.heap.size) cs o) (hg : ∀ j u, cs[j]? = some u → W.cell? ⟨g, j, none⟩ = some u) (hn : os.length ≤ 1000) :
    ∃ v' w', (Builtin.append_ #[44, 44] 44 #[v, .slice (some ⟨g, 0, none⟩) 1 1]).run Try.prog W = .ok v' w' ∧ OpsV w' lo v' (os ++ [o]) ∧ Chg (fun k => v.ownBlock = some k) W w' := by
  obtain ⟨css, h1, h2, h3⟩ := h.new hW
  have hl5 := hc.len
  obtain ⟨A, ca, K, ck, rfl, h4, h5, h6, h7⟩ := hc
  obtain ⟨v', w', hr, ho, hgb, _, hbk⟩ := run_append_own_at (P := Try.prog) W lo 44 44 48 ((Try.prog.info? 48).get!) (((Try.prog.info? 48).get!).zero.get!) 5 72
    Try.underlying44 (by kernel_rfl) (by kernel_rfl) (by kernel_rfl) (by kernel_rfl) (by kernel_rfl) (by decide) v os.length css.flatten h1 ⟨g, 0, none⟩ 1 1 _ (by rw [hl5])
    (fun j u hu => by rw [Addr.add_lit, Nat.zero_add]; exact hg j u hu) (by simp [Value.oneCell']) (by simp only [maxLen]; omega) (by omega) (Nat.le_trans hlo hW.size)
  have hch : Chg (fun k => v.ownBlock = some k) W w' := (Chg.refl (fun k => v.ownBlock = some k) W).grown hgb (fun k hk _ => hk)
  have hbk' : ∀ k, v'.ownBlock = some k → v.ownBlock = some k ∨ k = W.heap.size := fun k hk => by
    rcases hbk with e | e
    · exact .inl (e ▸ hk)
    · rw [e] at hk; injection hk with hk; exact .inr hk.symm
  refine ⟨v', w', hr, ⟨css ++ [[.int .i64 o.kind, .int .i64 o.file, .int .i64 o.n, .slice A o.b.length ca, .slice K o.keep.length ck]], ?_, by simp [h2], fun j o2 ho2 => ?_⟩, hch⟩
  · simpa using ho
  · by_cases hj : j < os.length
    · rw [List.getElem?_append_left hj] at ho2
      obtain ⟨cs2, q1, q2⟩ := h3 j o2 ho2
      refine ⟨cs2, by rw [List.getElem?_append_left (by omega)]; exact q1, q2.chg hch (fun k hk => hk.2.2) (fun k hk => ⟨hk.1, Nat.lt_of_lt_of_le hk.2.1 hch.size, fun e => ?_⟩)⟩
      rcases hbk' k e with e | e
      · exact hk.2.2 e
      · have := hk.2.1
        omega
    · have e : j = os.length := by
        have := (List.getElem?_eq_some_iff.1 ho2).1
        simp at this
        omega
      subst e
      have e2 : o = o2 := by simpa using ho2
      subst e2
      have hold : ∀ k, v.ownBlock = some k → k < w.heap.size := fun k hk => by
        obtain ⟨css0, h10, _⟩ := h
        exact (ownsRow_block h10 hk).2
      refine ⟨_, by rw [← h2]; simp, A, ca, K, ck, rfl, h4.chg hch (fun k hk _ e => ?_), h5, h6.chg hch (fun k hk _ e => ?_), fun k hk => ?_⟩
      · have := hold k e; have := h7 k (Or.inl hk); omega
      · have := hold k e; have := h7 k (Or.inr hk); omega
      · have h8 := h7 k hk
        refine ⟨by omega, Nat.lt_of_lt_of_le h8.2 hch.size, fun e => ?_⟩
        rcases hbk' k e with e | e
        · have := hold k e; omega
        · omega
end
end Go.Proofs.Ytdflpcbkkpgnlaa
