/- What the laws of refuterlaw06 use beside disks: Few, Around, SameBytes. -/
import Derived.Test.YtffehmfjcglalaaDkoZ
set_option linter.unusedSimpArgs false
set_option linter.unusedVariables false
namespace Go.Proofs.Ytffehmfjcglalaa
set_option linter.unusedVariables false
open Go.RowKit Go.Mem Go.Dk Go.Col

theorem isC_lit {w : World} {c : Colr} (l : List Int) {e : TypeId} : (isC l).sat (.slice (some ⟨w.heap.size, 0, none⟩) l.length l.length) (w.alloc (.cells (is l).toArray e)) (ext0 c w.heap.size) := by
  refine ⟨_, _, rfl, ⟨by simp, fun _ => ⟨_, rfl, fun j u hu => ?_⟩⟩, fun ad hA => ?_⟩
  · rw [Addr.add_lit, Nat.zero_add]
    exact (Blk.new w e _).cell j (by simpa using hu)
  · injection hA with hA
    subst hA
    exact ⟨by simp, by simp [ext0]⟩
/-- Bytes of an argument. -/
def byP (l : List UInt8) : TyC := ⟨fun v w c => ∃ A cp, v = .slice A l.length cp ∧ Rd w A l.length (bs l) ∧ l.length ≤ cp ∧ cp ≤ 9223372036854775807 ∧ ∀ ad, A = some ad → 0 < l.length → c ad.block = 0, fun {S v w c w' c'} ⟨A, cp, h1, h2, h3, h4, h5⟩ g e => ⟨A, cp, h1, rd_ext0 h2 h5 e, h3, h4, fun ad h6 h7 => by
  have h8 := h5 ad h6 h7
  obtain ⟨ad', h9, h10⟩ := h2.2 h7
  rw [h6] at h9
  injection h9 with h9
  subst h9
  have hl : (bs l)[0]? = some ((bs l)[0]'(by simpa [bs] using h7)) := List.getElem?_eq_getElem _
  have h11 := cell_lt (h10 0 _ hl)
  rw [e.col ad.block h11, h8]⟩⟩
section
variable {w : World} {c : Colr} {v u : Value} {l l' : List UInt8}
theorem byC_of_own {w' : World} {A : Option Addr} {cp : Nat} (h : w'.ownsRow w.heap.size 5 1 (.slice A l.length cp) l.length (bs l)) : (byC l).sat (.slice A l.length cp) w' (ext0 c w.heap.size) := by
  refine ⟨A, cp, rfl, Rd.of_own h, (own_cap h).1, fun ad hA => ?_⟩
  subst hA
  have := own_blk_le h (k := ad.block) rfl
  exact ⟨this.2, by simp [ext0]; intro h; omega⟩
theorem k_few {k : Nat} (h : (byP l).sat v w c) (hk : k ≤ 1000000) : CV Try.prog 20 #[v, .int .i64 (k : Int)] w c (byC (l.take k)) := by
  obtain ⟨A, cp, rfl, h2, h3, h4, h5⟩ := h
  refine CV.of_newc (R := fun u w' => ∃ A cp, u = .slice A (l.take k).length cp ∧ w'.ownsRow w.heap.size 5 1 (.slice A (l.take k).length cp) (l.take k).length (bs (l.take k))) ((few_any A l.length cp k l w h2 h3 h4 hk).mono ?_) ?_
  · rintro e w' ⟨A, cp, rfl, h5, h6⟩
    exact ⟨_, rfl, ⟨A, cp, rfl, h5⟩, h6⟩
  · rintro u w' hN ⟨A, cp, rfl, h5⟩
    exact byC_of_own h5
theorem k_around {a b : Int} (ha : -9223372036854775808 ≤ a ∧ a ≤ 9223372036854775807) (hb : 1 ≤ b ∧ b ≤ 9223372036854775807) : CV Try.prog 8 #[.int .i64 a, .int .i64 b] w c (TyC.eq (.int .i64 (aroundI a b))) := by
  refine CV.of_newc (R := fun u _ => u = .int .i64 (aroundI a b)) ((around_any a b w ha.1 ha.2 hb.1 hb.2).mono ?_) (fun u w' _ h => h)
  rintro e w' ⟨rfl, rfl⟩
  exact ⟨_, rfl, rfl, Chg.refl _ _⟩
theorem k_same (h : (byC l).sat v w c) (h' : (byC l').sat u w c) (hl : l.length ≤ 1000000000) (hl' : l'.length ≤ 1000000000) : CV Try.prog 29 #[v, u] w c (TyC.eq (.bool (decide (l = l')))) := by
  obtain ⟨A, cp, rfl, h2, _, h3⟩ := h
  obtain ⟨B, cq, rfl, h4, _, h5⟩ := h'
  refine CV.of_newc (R := fun u _ => u = .bool (decide (l = l'))) ((sameBytes_any A B l.length l'.length cp cq l l' w h2 h4 (by omega) (by omega)).mono ?_) (fun u w' _ h => h)
  rintro e w' ⟨rfl, h6⟩
  exact ⟨_, rfl, rfl, h6⟩
theorem k_same_t (h : (byC l).sat v w c) (h' : (byC l').sat u w c) (hl : l.length ≤ 1000000000) (e : l = l') : CV Try.prog 29 #[v, u] w c (TyC.eq (.bool true)) := by
  have := k_same h h' hl (by rw [← e]; exact hl)
  rwa [decide_eq_true e] at this
end
theorem isC_len {l : List Int} {k : Nat} {v : Value} {w : World} {c : Colr} (h : (isC l).sat v w c) (e : l.length = k) : ∃ A cp, v = .slice A k cp := by
  subst e
  obtain ⟨A, cp, rfl, _⟩ := h
  exact ⟨A, cp, rfl⟩
theorem dk_cast {P : Program} {f : Nat} {vs : Array Value} {w : World} {c : Colr} {n : Nat} {v : Value} {A A' : S} {x x' : Int} (h1 : A = A') (h2 : x = x') (h : CE P f vs w c [n] (fun u w' c' => u = .int .i64 x ∧ (dkO n A).sat v w' c')) : CE P f vs w c [n] (fun u w' c' => u = .int .i64 x' ∧ (dkO n A').sat v w' c') := by
  subst h1 h2
  exact h
theorem dk_castu {P : Program} {f : Nat} {vs : Array Value} {w : World} {c : Colr} {n : Nat} {v : Value} {A A' : S} (h1 : A = A') (h : CE P f vs w c [n] (fun u w' c' => u = .tuple #[] ∧ (dkO n A).sat v w' c')) : CE P f vs w c [n] (fun u w' c' => u = .tuple #[] ∧ (dkO n A').sat v w' c') := by
  subst h1
  exact h
theorem read_cast {P : Program} {f : Nat} {vs : Array Value} {w : World} {c : Colr} {r : List UInt8 × Int} {l : List UInt8} {k : Int} (e : r = (l, k)) (h : CV P f vs w c ((byC r.1).tup1 (.int .i64 r.2))) : CV P f vs w c ((byC l).tup1 (.int .i64 k)) := by
  subst e
  exact h
theorem used_cast {P : Program} {f : Nat} {vs : Array Value} {w : World} {c : Colr} {m : Nat} {k : Int} (e : (m : Int) = k) (h : CV P f vs w c (TyC.eq (.int .i64 (m : Int)))) : CV P f vs w c (TyC.eq (.int .i64 k)) := by
  subst e
  exact h
theorem on_cast {P : Program} {f : Nat} {vs : Array Value} {w : World} {c : Colr} {m k : Bool} (e : m = k) (h : CV P f vs w c (TyC.eq (.bool m))) : CV P f vs w c (TyC.eq (.bool k)) := by
  subst e
  exact h
end Go.Proofs.Ytffehmfjcglalaa
