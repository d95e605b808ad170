/- Slices that own their row: append, elements. No program is named here. -/
import Derived.Test.YtdflpcbkkpgnlaaB0
import Derived.Test.YtdflpcbkkpgnlaaSeqZ
namespace Go.Col
set_option linter.unusedVariables false
open Go.RowKit Go.Mem

/-- A slice of so many elements (sz cells each) that owns its row, of a colour; its cells. Without elements it may be nil. -/
def OwnRow (n sz : Nat) (t : TypeId) (v : Value) (len : Nat) (xs : List Value) (w : World) (c : Colr) : Prop :=
  xs.length = len * sz ∧ ((v = .slice none 0 0 ∧ len = 0) ∨ ∃ g cp cs, v = .slice (some ⟨g, 0, none⟩) len cp ∧ len ≤ cp ∧ c g = n ∧ Blk w g t cs ∧ cs.size = cp * sz ∧ cs.toList.take (len * sz) = xs)
section
variable {P : Program} {w w' : World} {c c' : Colr} {n sz len m : Nat} {t e ty : TypeId} {v z : Value} {xs news : List Value} {S : List Nat}
theorem OwnRow.ext (h : OwnRow n sz t v len xs w c) (he : Ext S w c w' c') (hn : S.contains n = false) : OwnRow n sz t v len xs w' c' := by
  refine ⟨h.1, h.2.imp id ?_⟩
  rintro ⟨g, cp, cs, h1, h2, h3, h4, h5, h6⟩
  obtain ⟨q1, q2⟩ := blk_ext h4 h3 he hn
  exact ⟨g, cp, cs, h1, h2, q2, q1, h5, h6⟩
theorem OwnRow.nil : OwnRow n sz t (.slice none 0 0) 0 [] w c := ⟨by simp, .inl ⟨rfl, rfl⟩⟩
theorem OwnRow.open (h : OwnRow n sz t v len xs w c) (hl : 0 < len) : ∃ g cp, v = .slice (some ⟨g, 0, none⟩) len cp := by
  rcases h.2 with ⟨_, h0⟩ | ⟨g, cp, cs, h1, _⟩
  · omega
  · exact ⟨g, cp, h1⟩
theorem OwnRow.cell (h : OwnRow n sz t v len xs w c) {g cp : Nat} (hv : v = .slice (some ⟨g, 0, none⟩) len cp) {j : Nat} {u : Value} (hu : xs[j]? = some u) : w.cell? ⟨g, j, none⟩ = some u := by
  rcases h.2 with ⟨h1, _⟩ | ⟨g', cp', cs, h1, h2, h3, h4, h5, h6⟩
  · rw [h1] at hv; cases hv
  · rw [h1] at hv
    injection hv with hv
    injection hv with hv
    injection hv with hv
    subst hv
    refine h4.cell j ?_
    rw [← h6, List.getElem?_take] at hu
    split at hu
    · simpa using hu
    · cases hu
theorem all_nb {l : List Value} : (l.all (fun v => !NB v) = true) ↔ ∀ v ∈ l, NB v = false := by simp
theorem gi_blk (g : GI w c) {k : Nat} {cs : Array Value} (hb : Blk w k t cs) (h : c k ≠ 0) : cs.toList.all (fun v => !NB v) = true := all_nb.2 (g k cs t (0, 0) hb h)
theorem zero_nb {z : Array Value} (hz : z.toList.all (fun v => !NB v) = true) (k : Nat) : (Builtin.zeroCells z k).toList.all (fun v => !NB v) = true := by
  rw [all_nb] at *
  intro v hv
  unfold Builtin.zeroCells at hv
  simp only [Array.toList_map, Array.toList_range, List.mem_map, List.mem_range] at hv
  obtain ⟨i, hi, rfl⟩ := hv
  have hs : 0 < z.size := by
    rcases Nat.eq_zero_or_pos z.size with h0 | h0
    · rw [h0, Nat.mul_zero] at hi; omega
    · exact h0
  have hlt : i % z.size < z.size := Nat.mod_lt _ hs
  rw [getElem!_pos z (i % z.size) hlt]
  exact hz _ (by simp)
theorem zero_size (z : Array Value) (k : Nat) : (Builtin.zeroCells z k).size = k * z.size := by simp [Builtin.zeroCells]
theorem all_nb_app {a b : List Value} (ha : a.all (fun v => !NB v) = true) (hb : b.all (fun v => !NB v) = true) : (a ++ b).all (fun v => !NB v) = true := by rw [List.all_append, ha, hb]; rfl
theorem app_new {cs : Array Value} {cp : Nat} (g : GI w c) (hS : ([n].contains 0 || [n].contains 1) = false) (hnb : cs.toList.all (fun v => !NB v) = true) (hlen : len ≤ cp) (hsz : cs.size = cp * sz) (hx : xs.length = len * sz) (htk : cs.toList.take (len * sz) = xs) :
    Ext [n] w c (w.drew.alloc (.cells cs e)) (setC c w.heap.size n) ∧ OwnRow n sz e (.slice (some ⟨w.heap.size, 0, none⟩) len cp) len xs (w.drew.alloc (.cells cs e)) (setC c w.heap.size n) := by
  refine ⟨(Ext.drew hS g).trans (Ext.alloc (w := w.drew) (t := e) g.drew hS hnb) (by simp), hx, .inr ⟨w.heap.size, cp, cs, rfl, hlen, by simp [setC], Blk.new w.drew e cs, hsz, htk⟩⟩
/-- append to a slice that owns its row: in place or anew. -/
theorem app_run {inf : TypeInfo} (h : OwnRow n sz e v len xs w c) (g : GI w c) (hS : ([n].contains 0 || [n].contains 1) = false) (ht : P.underlying t = some (.slice e)) (hi : P.info? e = some inf) (hz : inf.zero = some z) (hisz : inf.size = sz) (hzs : z.cells.size = sz) (hzn : z.cells.toList.all (fun v => !NB v) = true)
    {ad : Addr} {m cp' : Nat} (hl : news.length = m * sz) (hc : ∀ j u, news[j]? = some u → w.cell? (ad.add j) = some u) (h1 : ∀ u ∈ news, u.oneCell' = true) (hnb : news.all (fun v => !NB v) = true) (hm : 0 < m) (h63 : len + m ≤ 4611686018427387904) (hfit : (len + m) * inf.bytes ≤ 140737488355328) :
    ∃ v2 w2 c2, (Builtin.append_ #[t, t] ty #[v, .slice (some ad) m cp']).run P w = .ok v2 w2 ∧ Ext [n] w c w2 c2 ∧ OwnRow n sz e v2 (len + m) (xs ++ news) w2 c2 := by
  obtain ⟨hx, h⟩ := h
  have hxl : (xs ++ news).length = (len + m) * sz := by rw [List.length_append, hx, hl, Nat.add_mul]
  rcases h with ⟨rfl, rfl⟩ | ⟨gg, cp, cs, rfl, h2, h3, h4, h5, h6⟩
  · have hx0 : xs = [] := List.eq_nil_of_length_eq_zero (by omega)
    subst hx0
    have hge := grownCap_ge w m 0 e
    have hrun := run_append_nil (P := P) w t ty e inf z ht hi hz ad m cp' news (by rw [hisz]; exact hl) hc hm (by omega) (by rw [Nat.zero_add] at hfit; omega)
    obtain ⟨q1, q2⟩ := app_new (n := n) (sz := sz) (len := m) (xs := news) (e := e) (cs := news.toArray ++ Builtin.zeroCells z.cells (grownCap w m 0 e - m)) (cp := grownCap w m 0 e) g hS (by rw [Array.toList_append]; exact all_nb_app hnb (zero_nb hzn _)) hge
      (by rw [Array.size_append, zero_size, hzs, List.size_toArray, hl, ← Nat.add_mul]; congr 1; omega) hl (by rw [Array.toList_append]; exact List.take_left' hl)
    exact ⟨_, _, _, hrun, q1, by rw [Nat.zero_add, List.nil_append]; exact q2⟩
  · by_cases hroom : len + m ≤ cp
    · have hsz : len * sz + news.length ≤ cs.size := by rw [h5, hl, ← Nat.add_mul]; exact Nat.mul_le_mul_right _ hroom
      have hrun := run_append_room (P := P) w t ty e inf ht hi gg len cp cs h4 ad m cp' news (by rw [hisz]; exact hl) hc h1 hroom (by rw [hisz]; exact hsz)
      rw [hisz, h6] at hrun
      obtain ⟨cs2, hcs2⟩ : ∃ cs2, cs2 = (xs ++ news ++ cs.toList.drop (len * sz + news.length)).toArray := ⟨_, rfl⟩
      rw [← hcs2] at hrun
      have hb2 : Blk (w.setRow gg cs2) gg e cs2 := setRow_heap w gg cs cs2 e (0, 0) h4
      have hold := gi_blk g h4 (by rw [h3]; intro h0; subst h0; simp at hS)
      have hn2 : cs2.toList.all (fun v => !NB v) = true := by
        rw [hcs2]
        refine all_nb_app (all_nb_app ?_ hnb) ?_
        · rw [← h6, all_nb] at *; exact fun u hu => hold u (List.mem_of_mem_take hu)
        · rw [all_nb] at *; exact fun u hu => hold u (List.mem_of_mem_drop hu)
      refine ⟨_, _, c, hrun, Ext.store g ⟨rfl, rfl, rfl, by simp [World.setRow], fun k hk hne => setRow_other w gg k cs2 hne⟩ (by simp [World.setRow]) h3 hS hb2 hn2, hxl, .inr ⟨gg, cp, cs2, rfl, hroom, h3, hb2, ?_, ?_⟩⟩
      · rw [hcs2, List.size_toArray, List.length_append, List.length_drop, hxl, Array.length_toList, h5, hl, ← Nat.add_mul]
        have := Nat.mul_le_mul_right sz hroom
        omega
      · rw [hcs2]
        exact List.take_left' hxl
    · have hge := grownCap_ge w (len + m) cp e
      have hrun := run_append_grow (P := P) w t ty e inf z ht hi hz ⟨gg, 0, none⟩ len cp xs (by rw [hisz]; exact hx) (fun j u hu => by
        rw [Addr.add_lit, Nat.zero_add]
        refine h4.cell j ?_
        rw [← h6, List.getElem?_take] at hu
        split at hu
        · simpa using hu
        · cases hu) ad m cp' news (by rw [hisz]; exact hl) hc (by omega) (by omega) (growslice_fits (by omega) hfit)
      have hxn : xs.all (fun v => !NB v) = true := by
        have hold := gi_blk g h4 (by rw [h3]; intro h0; subst h0; simp at hS)
        rw [← h6, all_nb] at *; exact fun u hu => hold u (List.mem_of_mem_take hu)
      obtain ⟨q1, q2⟩ := app_new (n := n) (sz := sz) (len := len + m) (xs := xs ++ news) (e := e) (cs := xs.toArray ++ news.toArray ++ Builtin.zeroCells z.cells (grownCap w (len + m) cp e - (len + m))) (cp := grownCap w (len + m) cp e) g hS
        (by rw [Array.toList_append, Array.toList_append]; exact all_nb_app (all_nb_app hxn hnb) (zero_nb hzn _)) hge
        (by rw [Array.size_append, Array.size_append, zero_size, hzs, List.size_toArray, List.size_toArray, hl, hx, ← Nat.add_mul, ← Nat.add_mul]; congr 1; omega) hxl (by rw [Array.toList_append, Array.toList_append]; exact List.take_left' hxl)
      exact ⟨_, _, _, hrun, q1, q2⟩
end
end Go.Col
