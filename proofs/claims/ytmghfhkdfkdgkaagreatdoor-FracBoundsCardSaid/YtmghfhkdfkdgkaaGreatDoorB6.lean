/- The parts FrZ, FrO, Own, Ow, Lift, Args of the proof, in one text. -/
import Derived.Handed
import Derived.Test.YtmghfhkdfkdgkaaGreatDoorB5
set_option linter.unusedSimpArgs false
set_option linter.unusedVariables false

namespace Go.Proofs.YtmghfhkdfkdgkaaGreatDoor
set_option linter.unusedVariables false
open Go.RowKit Go.Mem Go.Dig Go.Fr Go.Col

theorem num_lt {a b : Int} (hb : I64 b) {M : Nat} (hM : 1265 ≤ M) : (numV a b).natAbs < 2 ^ M := by
  have h0 : (2 : Nat) ^ 64 ≤ 2 ^ M := Nat.pow_le_pow_right (by omega) (by omega)
  have h64 : ∀ {z : Int}, z.natAbs < 18446744073709551616 → z.natAbs < 2 ^ M := fun h => Nat.lt_of_lt_of_le h h0
  unfold numV
  split
  · have h1 := Int.tmod_lt_of_pos b (show (0 : Int) < 60 by decide)
    have h2 : -60 < b.tmod 60 := Int.lt_tmod_of_pos b (show (0 : Int) < 60 by decide)
    exact h64 (by omega)
  · split
    · exact h64 (by omega)
    · have hi : ((a.tdiv 7).tmod 40).toNat ≤ 40 := by have := tmod40 (a.tdiv 7); omega
      have hb3 : (b + 3).natAbs < 2 ^ 64 := show (b + 3).natAbs < 18446744073709551616 by omega
      have hm : (mM ^ ((a.tdiv 7).tmod 40).toNat).natAbs < 2 ^ (30 * ((a.tdiv 7).tmod 40).toNat + 1) := by
        rw [Int.natAbs_pow, Nat.pow_succ, Nat.pow_mul]
        have h1 : mM.natAbs ^ ((a.tdiv 7).tmod 40).toNat ≤ (2 ^ 30) ^ ((a.tdiv 7).tmod 40).toNat := Nat.pow_le_pow_left (by decide) _
        have h2 : 0 < (2 ^ 30) ^ ((a.tdiv 7).tmod 40).toNat := Nat.pow_pos (by decide)
        omega
      exact Nat.lt_of_lt_of_le (nmul_lt hb3 hm) (Nat.pow_le_pow_right (by omega) (by omega))
/-- A fraction made from numbers is of at most 1265 bits. -/
theorem fracV_Fb {xs : List Int} (h : ∀ z ∈ xs, I64 z) (i : Int) {M : Nat} (hM : 1265 ≤ M) : Fb M (fracV xs i) := by
  have hn : ∀ j k, (numV (pk xs j) (pk xs k)).natAbs < 2 ^ M := fun j k => num_lt (pk_i64 h k) hM
  have h1 : (1 : Int).natAbs < 2 ^ M := Nat.lt_of_lt_of_le (show (1 : Nat) < 2 ^ 1 by decide) (Nat.pow_le_pow_right (by omega) (by omega))
  unfold fracV mkV
  have hq : (fracQ xs i).natAbs < 2 ^ M := by
    unfold fracQ
    split
    · exact h1
    · exact hn _ _
  split
  · rename_i h0
    exfalso
    unfold fracQ at h0
    split at h0 <;> omega
  · exact Fb.mk (hn _ _) hq (by omega)
section
variable {w : World} {c : Colr} {v v' : Value} {r r' s : Rat}
theorem k_faddin (h : (ffC r).sat v w c) (h' : (ffC r').sat v' w c) (ho : addOk r r') (e : r + r' = s) : CV Tryz.prog 28 #[v, v'] w c ((ffC s).tup1 (.int .i64 0)) := by
  have := k_fadd h h'
  rwa [show addV r r' = s from (if_pos ho).trans e, show addE r r' = 0 from if_pos ho] at this
theorem k_fmulin (h : (ffC r).sat v w c) (h' : (ffC r').sat v' w c) (ho : ft (r * r')) (e : r * r' = s) : CV Tryz.prog 32 #[v, v'] w c ((ffC s).tup1 (.int .i64 0)) := by
  have := k_fmul h h'
  rwa [show rgR (r * r') = s from (if_pos ho).trans e, show rgRE (r * r') = 0 from if_pos ho] at this
end
end Go.Proofs.YtmghfhkdfkdgkaaGreatDoor

namespace Go.Proofs.YtmghfhkdfkdgkaaGreatDoor
set_option linter.unusedVariables false
open Go.RowKit Go.Mem Go.Dig Go.Fr Go.Col

theorem cmpI_mul {k a b : Int} (hk : 0 < k) : cmpI (k * a) (k * b) = cmpI a b := by
  rcases Int.lt_trichotomy a b with h | h | h
  · rw [cmpI_lt h, cmpI_lt (Int.mul_lt_mul_of_pos_left h hk)]
  · rw [cmpI_eq h, cmpI_eq (by rw [h])]
  · rw [cmpI_gt h, cmpI_gt (Int.mul_lt_mul_of_pos_left h hk)]
theorem cmpR_le {x y : Rat} : cmpR x y ≤ 0 ↔ ¬ y < x := by
  rcases cmpR_cases x y with ⟨h, e⟩ | ⟨h, e⟩ | ⟨h, e⟩
  · rw [e]; exact ⟨fun _ h2 => Rat.not_lt.2 (Rat.le_of_lt h) h2, fun _ => by omega⟩
  · rw [e]; exact ⟨fun _ h2 => by rw [h] at h2; exact absurd h2 Rat.lt_irrefl, fun _ => by omega⟩
  · rw [e]; exact ⟨fun h2 => by omega, fun h2 => absurd h h2⟩
theorem cmpR_trans {a b c : Rat} (h1 : cmpR a b ≤ 0) (h2 : cmpR b c ≤ 0) : ¬ cmpR a c > 0 := by
  have h3 : cmpR a c ≤ 0 := cmpR_le.2 (fun h => by
    have q1 := Rat.not_lt.1 (cmpR_le.1 h1)
    have q2 := Rat.not_lt.1 (cmpR_le.1 h2)
    exact absurd (Rat.le_trans q1 q2) (Rat.not_le.2 h))
  omega
theorem cmpR_add (a b c : Rat) : cmpR (a + c) (b + c) = cmpR a b := by
  rcases cmpR_cases a b with ⟨h, e⟩ | ⟨h, e⟩ | ⟨h, e⟩
  · rw [e]; exact cmpR_lt.2 (Rat.add_lt_add_right.2 h)
  · rw [e, h]; exact cmpR_eq.2 rfl
  · rw [e]; exact cmpR_gt.2 (Rat.add_lt_add_right.2 h)
theorem num_sign (c : Rat) : (c < 0 ∧ cmpI c.num 0 = -1) ∨ (c = 0 ∧ cmpI c.num 0 = 0) ∨ (0 < c ∧ cmpI c.num 0 = 1) := by
  have e : cmpR c 0 = cmpI c.num 0 := by
    unfold cmpR
    rw [show dn 0 = 1 from rfl, show (0 : Rat).num = 0 from rfl, Int.mul_one, Int.zero_mul]
  rcases cmpR_cases c 0 with ⟨h, h2⟩ | ⟨h, h2⟩ | ⟨h, h2⟩
  · exact .inl ⟨h, e ▸ h2⟩
  · exact .inr (.inl ⟨h, e ▸ h2⟩)
  · exact .inr (.inr ⟨h, e ▸ h2⟩)
theorem cmpR_mul (a b c : Rat) : cmpR (a * c) (b * c) = cmpR a b * cmpI c.num 0 := by
  rcases num_sign c with ⟨hc, ec⟩ | ⟨hc, ec⟩ | ⟨hc, ec⟩
  · rw [ec]
    have hc' : 0 < -c := by have := Rat.neg_lt_neg hc; simpa using this
    have key : ∀ {x y : Rat}, x < y → y * c < x * c := fun {x y} h => by
      have := Rat.mul_lt_mul_of_pos_right h hc'
      rw [Rat.mul_neg, Rat.mul_neg] at this
      have := Rat.neg_lt_neg this
      simpa using this
    rcases cmpR_cases a b with ⟨h, e⟩ | ⟨h, e⟩ | ⟨h, e⟩
    · rw [e]; exact cmpR_gt.2 (key h)
    · rw [e, h]; exact cmpR_eq.2 rfl
    · rw [e]; exact cmpR_lt.2 (key h)
  · rw [ec, hc, Rat.mul_zero, Rat.mul_zero, Int.mul_zero]
    exact cmpR_eq.2 rfl
  · rw [ec, Int.mul_one]
    rcases cmpR_cases a b with ⟨h, e⟩ | ⟨h, e⟩ | ⟨h, e⟩
    · rw [e]; exact cmpR_lt.2 (Rat.mul_lt_mul_of_pos_right h hc)
    · rw [e, h]; exact cmpR_eq.2 rfl
    · rw [e]; exact cmpR_gt.2 (Rat.mul_lt_mul_of_pos_right h hc)
theorem divInt_cross {p q : Int} (hq : 0 < q) : (Rat.divInt p q).num * q = p * dn (Rat.divInt p q) := by
  have h1 := (make_pos (p := p) hq).1
  have h2 := (make_pos (p := p) hq).2
  rw [← h1, ← h2]
  have d1 : ((Int.gcd p q : Nat) : Int) * (p / ((Int.gcd p q : Nat) : Int)) = p := Int.mul_ediv_cancel' (Int.gcd_dvd_left _ _)
  have d2 : ((Int.gcd p q : Nat) : Int) * (q / ((Int.gcd p q : Nat) : Int)) = q := Int.mul_ediv_cancel' (Int.gcd_dvd_right _ _)
  generalize ((Int.gcd p q : Nat) : Int) = g at d1 d2 ⊢
  generalize p / g = s at d1 ⊢
  generalize q / g = t at d2 ⊢
  rw [← d1, ← d2]
  ac_rfl
theorem cmpR_div {x : Rat} {p q : Int} (hq : 0 < q) : cmpR x (Rat.divInt p q) = cmpI (x.num * q) (p * dn x) := by
  have h := divInt_cross (p := p) hq
  have hd := dn_pos (Rat.divInt p q)
  unfold cmpR
  rw [← cmpI_mul hq, ← cmpI_mul (a := x.num * q) hd]
  congr 1
  · ac_rfl
  · rw [show q * ((Rat.divInt p q).num * dn x) = ((Rat.divInt p q).num * q) * dn x by ac_rfl, h]
    ac_rfl
/-- The fraction between. -/
def midV (a b : Rat) : Rat := mkV (a.num + b.num) (dn a + dn b)
theorem mid_pos (a b : Rat) : 0 < dn a + dn b := by have := dn_pos a; have := dn_pos b; omega
theorem mid_eq (a b : Rat) : midV a b = Rat.divInt (a.num + b.num) (dn a + dn b) := if_neg (by have := mid_pos a b; omega)
theorem mid_left (a b : Rat) : cmpR a (midV a b) = cmpR a b := by
  rw [mid_eq, cmpR_div (mid_pos a b)]
  refine cmpI_of_sub ?_
  rw [Int.mul_add, Int.add_mul]
  omega
theorem mid_right (a b : Rat) : cmpR (midV a b) b = cmpR a b := by
  rw [cmpR_swap b, mid_eq, cmpR_div (mid_pos a b), ← cmpI_swap]
  refine cmpI_of_sub ?_
  rw [Int.mul_add, Int.add_mul]
  omega
theorem mid_E (a b : Rat) : mkE (dn a + dn b) = 0 := if_neg (by have := mid_pos a b; omega)
theorem cmpR_rng (a b : Rat) : -1 ≤ cmpR a b ∧ cmpR a b ≤ 1 := cmp_rng _ _
theorem cmpR_ne {a b : Rat} (h : ¬ a = b) : (cmpR a b == 0) = false := by
  rcases cmpR_cases a b with ⟨h1, e⟩ | ⟨h1, e⟩ | ⟨h1, e⟩
  · rw [e]; rfl
  · exact absurd h1 h
  · rw [e]; rfl
theorem cmpR_dec (a b : Rat) : (cmpR a b == 0) = decide (a = b) := by
  by_cases h : a = b
  · rw [cmpR_eq.2 h, decide_eq_true h]; rfl
  · rw [cmpR_ne h, decide_eq_false h]
theorem k_mid {w : World} {c : Colr} {v v' : Value} {x y : Rat} (h : (wfC (x.num + y.num)).sat v w c) (h' : (wfC (dn x + dn y)).sat v' w c) : CV Tryz.prog 17 #[v, v'] w c ((ffC (midV x y)).tup1 (.int .i64 0)) := by
  have := k_make h h'
  rwa [mid_E] at this
end Go.Proofs.YtmghfhkdfkdgkaaGreatDoor

namespace Go.Col
set_option linter.unusedVariables false
open Go.RowKit Go.Mem

/-- A slice of so many elements (sz cells each) that owns its row, of a colour; its cells. Without elements it may be nil. -/
def OwnRow (n sz : Nat) (t : TypeId) (v : Value) (len : Nat) (xs : List Value) (w : World) (c : Colr) : Prop :=
  xs.length = len * sz ∧ ((v = .slice none 0 0 ∧ len = 0) ∨ ∃ g cp cs, v = .slice (some ⟨g, 0, none⟩) len cp ∧ len ≤ cp ∧ c g = n ∧ Blk w g t cs ∧ cs.size = cp * sz ∧ cs.toList.take (len * sz) = xs)
section
variable {P : Program} {w w' : World} {c c' : Colr} {n sz len m : Nat} {t e ty : TypeId} {v z : Value} {xs news : List Value} {S : List Nat}
theorem OwnRow.ext (h : OwnRow n sz t v len xs w c) (he : Ext S w c w' c') (hn : S.contains n = false) : OwnRow n sz t v len xs w' c' := by
  refine ⟨h.1, h.2.imp id ?_⟩
  rintro ⟨g, cp, cs, h1, h2, h3, h4, h5, h6⟩
  obtain ⟨q1, q2⟩ := blk_ext h4 h3 he hn
  exact ⟨g, cp, cs, h1, h2, q2, q1, h5, h6⟩
theorem OwnRow.nil : OwnRow n sz t (.slice none 0 0) 0 [] w c := ⟨by simp, .inl ⟨rfl, rfl⟩⟩
theorem OwnRow.open (h : OwnRow n sz t v len xs w c) (hl : 0 < len) : ∃ g cp, v = .slice (some ⟨g, 0, none⟩) len cp := by
  rcases h.2 with ⟨_, h0⟩ | ⟨g, cp, cs, h1, _⟩
  · omega
  · exact ⟨g, cp, h1⟩
theorem OwnRow.cell (h : OwnRow n sz t v len xs w c) {g cp : Nat} (hv : v = .slice (some ⟨g, 0, none⟩) len cp) {j : Nat} {u : Value} (hu : xs[j]? = some u) : w.cell? ⟨g, j, none⟩ = some u := by
  rcases h.2 with ⟨h1, _⟩ | ⟨g', cp', cs, h1, h2, h3, h4, h5, h6⟩
  · rw [h1] at hv; cases hv
  · rw [h1] at hv
    injection hv with hv
    injection hv with hv
    injection hv with hv
    subst hv
    refine h4.cell j ?_
    rw [← h6, List.getElem?_take] at hu
    split at hu
    · simpa using hu
    · cases hu
theorem all_nb {l : List Value} : (l.all (fun v => !NB v) = true) ↔ ∀ v ∈ l, NB v = false := by simp
theorem gi_blk (g : GI w c) {k : Nat} {cs : Array Value} (hb : Blk w k t cs) (h : c k ≠ 0) : cs.toList.all (fun v => !NB v) = true := all_nb.2 (g k cs t (0, 0) hb h)
theorem zero_nb {z : Array Value} (hz : z.toList.all (fun v => !NB v) = true) (k : Nat) : (Builtin.zeroCells z k).toList.all (fun v => !NB v) = true := by
  rw [all_nb] at *
  intro v hv
  unfold Builtin.zeroCells at hv
  simp only [Array.toList_map, Array.toList_range, List.mem_map, List.mem_range] at hv
  obtain ⟨i, hi, rfl⟩ := hv
  have hs : 0 < z.size := by
    rcases Nat.eq_zero_or_pos z.size with h0 | h0
    · rw [h0, Nat.mul_zero] at hi; omega
    · exact h0
  have hlt : i % z.size < z.size := Nat.mod_lt _ hs
  rw [getElem!_pos z (i % z.size) hlt]
  exact hz _ (by simp)
theorem zero_size (z : Array Value) (k : Nat) : (Builtin.zeroCells z k).size = k * z.size := by simp [Builtin.zeroCells]
theorem all_nb_app {a b : List Value} (ha : a.all (fun v => !NB v) = true) (hb : b.all (fun v => !NB v) = true) : (a ++ b).all (fun v => !NB v) = true := by rw [List.all_append, ha, hb]; rfl
theorem app_new {cs : Array Value} {cp : Nat} (g : GI w c) (hS : ([n].contains 0 || [n].contains 1) = false) (hnb : cs.toList.all (fun v => !NB v) = true) (hlen : len ≤ cp) (hsz : cs.size = cp * sz) (hx : xs.length = len * sz) (htk : cs.toList.take (len * sz) = xs) :
    Ext [n] w c (w.drew.alloc (.cells cs e)) (setC c w.heap.size n) ∧ OwnRow n sz e (.slice (some ⟨w.heap.size, 0, none⟩) len cp) len xs (w.drew.alloc (.cells cs e)) (setC c w.heap.size n) := by
  refine ⟨(Ext.drew hS g).trans (Ext.alloc (w := w.drew) (t := e) g.drew hS hnb) (by simp), hx, .inr ⟨w.heap.size, cp, cs, rfl, hlen, by simp [setC], Blk.new w.drew e cs, hsz, htk⟩⟩
/-- append to a slice that owns its row: in place or anew. -/
theorem app_run {inf : TypeInfo} (h : OwnRow n sz e v len xs w c) (g : GI w c) (hS : ([n].contains 0 || [n].contains 1) = false) (ht : P.underlying t = some (.slice e)) (hi : P.info? e = some inf) (hz : inf.zero = some z) (hisz : inf.size = sz) (hzs : z.cells.size = sz) (hzn : z.cells.toList.all (fun v => !NB v) = true)
    {ad : Addr} {m cp' : Nat} (hl : news.length = m * sz) (hc : ∀ j u, news[j]? = some u → w.cell? (ad.add j) = some u) (h1 : ∀ u ∈ news, u.oneCell' = true) (hnb : news.all (fun v => !NB v) = true) (hm : 0 < m) (h63 : len + m ≤ 4611686018427387904) (hfit : (len + m) * inf.bytes ≤ 140737488355328) :
    ∃ v2 w2 c2, (Builtin.append_ #[t, t] ty #[v, .slice (some ad) m cp']).run P w = .ok v2 w2 ∧ Ext [n] w c w2 c2 ∧ OwnRow n sz e v2 (len + m) (xs ++ news) w2 c2 := by
  obtain ⟨hx, h⟩ := h
  have hxl : (xs ++ news).length = (len + m) * sz := by rw [List.length_append, hx, hl, Nat.add_mul]
  rcases h with ⟨rfl, rfl⟩ | ⟨gg, cp, cs, rfl, h2, h3, h4, h5, h6⟩
  · have hx0 : xs = [] := List.eq_nil_of_length_eq_zero (by omega)
    subst hx0
    have hge := grownCap_ge w m 0 e
    have hrun := run_append_nil (P := P) w t ty e inf z ht hi hz ad m cp' news (by rw [hisz]; exact hl) hc hm (by omega) (by rw [Nat.zero_add] at hfit; omega)
    obtain ⟨q1, q2⟩ := app_new (n := n) (sz := sz) (len := m) (xs := news) (e := e) (cs := news.toArray ++ Builtin.zeroCells z.cells (grownCap w m 0 e - m)) (cp := grownCap w m 0 e) g hS (by rw [Array.toList_append]; exact all_nb_app hnb (zero_nb hzn _)) hge
      (by rw [Array.size_append, zero_size, hzs, List.size_toArray, hl, ← Nat.add_mul]; congr 1; omega) hl (by rw [Array.toList_append]; exact List.take_left' hl)
    exact ⟨_, _, _, hrun, q1, by rw [Nat.zero_add, List.nil_append]; exact q2⟩
  · by_cases hroom : len + m ≤ cp
    · have hsz : len * sz + news.length ≤ cs.size := by rw [h5, hl, ← Nat.add_mul]; exact Nat.mul_le_mul_right _ hroom
      have hrun := run_append_room (P := P) w t ty e inf ht hi gg len cp cs h4 ad m cp' news (by rw [hisz]; exact hl) hc h1 hroom (by rw [hisz]; exact hsz)
      rw [hisz, h6] at hrun
      obtain ⟨cs2, hcs2⟩ : ∃ cs2, cs2 = (xs ++ news ++ cs.toList.drop (len * sz + news.length)).toArray := ⟨_, rfl⟩
      rw [← hcs2] at hrun
      have hb2 : Blk (w.setRow gg cs2) gg e cs2 := setRow_heap w gg cs cs2 e (0, 0) h4
      have hold := gi_blk g h4 (by rw [h3]; intro h0; subst h0; simp at hS)
      have hn2 : cs2.toList.all (fun v => !NB v) = true := by
        rw [hcs2]
        refine all_nb_app (all_nb_app ?_ hnb) ?_
        · rw [← h6, all_nb] at *; exact fun u hu => hold u (List.mem_of_mem_take hu)
        · rw [all_nb] at *; exact fun u hu => hold u (List.mem_of_mem_drop hu)
      refine ⟨_, _, c, hrun, Ext.store g ⟨rfl, rfl, rfl, by simp [World.setRow], fun k hk hne => setRow_other w gg k cs2 hne⟩ (by simp [World.setRow]) h3 hS hb2 hn2, hxl, .inr ⟨gg, cp, cs2, rfl, hroom, h3, hb2, ?_, ?_⟩⟩
      · rw [hcs2, List.size_toArray, List.length_append, List.length_drop, hxl, Array.length_toList, h5, hl, ← Nat.add_mul]
        have := Nat.mul_le_mul_right sz hroom
        omega
      · rw [hcs2]
        exact List.take_left' hxl
    · have hge := grownCap_ge w (len + m) cp e
      have hrun := run_append_grow (P := P) w t ty e inf z ht hi hz ⟨gg, 0, none⟩ len cp xs (by rw [hisz]; exact hx) (fun j u hu => by
        rw [Addr.add_lit, Nat.zero_add]
        refine h4.cell j ?_
        rw [← h6, List.getElem?_take] at hu
        split at hu
        · simpa using hu
        · cases hu) ad m cp' news (by rw [hisz]; exact hl) hc (by omega) (by omega) (growslice_fits (by omega) hfit)
      have hxn : xs.all (fun v => !NB v) = true := by
        have hold := gi_blk g h4 (by rw [h3]; intro h0; subst h0; simp at hS)
        rw [← h6, all_nb] at *; exact fun u hu => hold u (List.mem_of_mem_take hu)
      obtain ⟨q1, q2⟩ := app_new (n := n) (sz := sz) (len := len + m) (xs := xs ++ news) (e := e) (cs := xs.toArray ++ news.toArray ++ Builtin.zeroCells z.cells (grownCap w (len + m) cp e - (len + m))) (cp := grownCap w (len + m) cp e) g hS
        (by rw [Array.toList_append, Array.toList_append]; exact all_nb_app (all_nb_app hxn hnb) (zero_nb hzn _)) hge
        (by rw [Array.size_append, Array.size_append, zero_size, hzs, List.size_toArray, List.size_toArray, hl, hx, ← Nat.add_mul, ← Nat.add_mul]; congr 1; omega) hxl (by rw [Array.toList_append, Array.toList_append]; exact List.take_left' hxl)
      exact ⟨_, _, _, hrun, q1, q2⟩
end
end Go.Col

namespace Go.Col
set_option linter.unusedVariables false
open Go.RowKit Go.Mem

/-- A slice of structs that owns its row. -/
def ownS (n sz : Nat) (t : TypeId) (L : List TyC) : TyO := ⟨[n], fun v w c => ∃ xs, OwnRow n sz t v L.length xs w c ∧ (catK sz L).sat xs.toArray w c, fun ⟨xs, h1, h2⟩ g e hn => ⟨xs, h1.ext e (by simpa using hn), (catK sz L).stab h2 g e⟩⟩
theorem ownS_nil {n sz : Nat} {t : TypeId} {w : World} {c : Colr} : (ownS n sz t []).sat (.slice none 0 0) w c := ⟨[], OwnRow.nil, fun k τ hk => by simp at hk⟩
theorem ownS_open {n sz : Nat} {t : TypeId} {L : List TyC} {v : Value} {w : World} {c : Colr} (h : (ownS n sz t L).sat v w c) {m : Nat} (hm : L.length = m) (hl : 0 < m) : ∃ g cp, v = .slice (some ⟨g, 0, none⟩) m cp := by
  obtain ⟨xs, h1, _⟩ := h
  subst hm
  exact h1.open hl
/-- The cells of an element. -/
theorem ownS_cells {n sz : Nat} {t : TypeId} {L : List TyC} {g cp m : Nat} {w : World} {c : Colr} (h : (ownS n sz t L).sat (.slice (some ⟨g, 0, none⟩) m cp) w c) (hm : L.length = m) {k : Nat} {τ : TyC} (hk : L[k]? = some τ) : ∃ u : Array Value, u.size = sz ∧ τ.sat (.agg u) w c ∧ ∀ j x, u[j]? = some x → w.cell? ⟨g, k * sz + j, none⟩ = some x := by
  obtain ⟨xs, h1, h2⟩ := h
  obtain ⟨u, q1, q2, q3⟩ := h2 k τ hk
  subst hm
  exact ⟨u, q1, q2, fun j x hx => h1.cell rfl (by have := q3 j x hx; simpa using this)⟩
theorem ownS_load {P : Program} {ty : TypeId} {n sz : Nat} {t : TypeId} {L : List TyC} {g cp m : Nat} {w : World} {c : Colr} (hA : Agg P ty sz) (h : (ownS n sz t L).sat (.slice (some ⟨g, 0, none⟩) m cp) w c) (hm : L.length = m) {k : Nat} {τ : TyC} (hk : L[k]? = some τ) : ∃ u, (loadVar ty ⟨g, k * sz, none⟩).run P w = .ok u w ∧ τ.sat u w c := by
  obtain ⟨u, q1, q2, q3⟩ := ownS_cells h hm hk
  refine ⟨_, load_cells hA u.toList (by simpa using q1) (fun j x hx => ?_), q2⟩
  rw [Addr.add_lit]
  exact q3 j x (by simpa using hx)
theorem own_now {d : Nat} {τ : TyO} {b : BB} {f : FF} {u : Value} {w : World} {c : Colr} (h : τ.sat u w c) : (RF.own d τ).P b (upF (some d) u f) w c := fun v hv => by
  rw [up_at] at hv
  injection hv with hv
  exact hv ▸ h
theorem own_nyet {d p : Nat} {τ : TyO} {b : BB} {f : FF} {u : Value} {w : World} {c : Colr} (hp : (p == d) = false) (h : f p = none) : (RF.own p τ).P b (upF (some d) u f) w c := fun v hv => by
  have : upF (some d) u f p = f p := by
    have : ¬ p = d := by simpa using hp
    have h2 : ¬ d = p := fun e => this e.symm
    unfold upF
    split
    · rename_i h3
      injection h3 with h3
      exact absurd h3 h2
    · rfl
  rw [this, h] at hv
  cases hv
theorem All.co {v : Value} {τ : TyO} {L : List RF} {b : BB} {f : FF} {w : World} {c : Colr} (h : τ.sat v w c) (hL : All L b f w c) : All (.s (Fact.own τ v) :: L) b f w c := ⟨h, hL⟩
theorem All.own {L : List RF} {b : BB} {f : FF} {w : World} {c : Colr} {τ : TyO} {v : Value} (h : All L b f w c) (k : Nat) (hk : nthR L k = .s (Fact.own τ v)) : τ.sat v w c := by
  have := All.nth k h
  rw [hk] at this
  exact this
theorem All.so0 {L : List RF} {b : BB} {f : FF} {w : World} {c : Colr} {i : Nat} {τ : TyO} {v : Value} {F1 : Fact} (h : All L b f w c) (k : Nat) (hk : nthR L k = .st i F1 (.s (Fact.own τ v))) (hb : b i = false) : τ.sat v w c := by
  have := All.nth k h
  rw [hk] at this
  exact this.2 hb
theorem All.no {L : List RF} {b : BB} {f : FF} {w : World} {c : Colr} {τ : TyO} {p : Nat} {v : Value} (h : All L b f w c) (k : Nat) (hk : nthR L k = .own p τ) (hf : f p = some v) : τ.sat v w c := by
  have := All.nth k h
  rw [hk] at this
  exact this v hf
theorem All.cown {L : List RF} {w : World} {c : Colr} (p : Nat) (τ : TyO) (h : All L b0 f0 w c) : All (.own p τ :: L) b0 f0 w c := ⟨RF.own_none, h⟩
section
variable {P : Program} {l : List Oper} {dt : List (List Nat)} {Q : Exit → Act → World → Prop} {n : Nat} {a : Act} {m : Nat → Option Value} {D CB : List Nat} {Fs : List RF} {V : Nat → TyC} {w0 : World} {c0 : Colr} {i : Nat}
theorem unset_of {b : BB} {f : FF} {w : World} {c : Colr} (hJ : J l.toArray w0 c0 CB Fs V b f w c) {j p : Nat} (hb : b j = false) (hp : dstOf l j = some p) : f p = none := by
  unfold dstOf at hp
  cases ho : nthL l j with
  | none => rw [ho] at hp; cases hp
  | some oj =>
    rw [ho] at hp
    rw [nthL_eq] at ho
    have := hJ.set j oj p (by simpa using ho) hp
    cases hf : f p with
    | none => rfl
    | some v =>
      have := this.2 (by rw [hf]; simp)
      rw [hb] at this
      cases this
/-- One element more, in place or anew; the old slice is gone; the slot p is written later. -/
theorem sApO (nc d p j : Nat) {o : Oper} {sz : Nat} {t e : TypeId} {inf : TypeInfo} {z : Value} {L : List TyC} {τ : TyC} {σ : TyO} {F0 : RF} (r0 r1 : XA n l dt m D i) (ht : P.underlying t = some (.slice e)) (hi2 : P.info? e = some inf) (hz : inf.zero = some z) (hsz : inf.size = sz) (hzc : z.cells.size = sz) (hzn : z.cells.toList.all (fun v => !NB v) = true) (hs : τ.str sz)
    (H0 : ∀ {b : BB} {f : FF} {w : World} {c : Colr} {v : Value}, Kx dt w0 c0 CB Fs i b f w c → r0.r.T V w c v → (ownS nc sz e L).sat (r0.r.W v) w c) (H1 : ∀ {b : BB} {f : FF} {w : World} {c : Colr} {v : Value}, Kx dt w0 c0 CB Fs i b f w c → r1.r.T V w c v → (litC sz e [τ]).sat (r1.r.W v) w c) (hL : L.length ≤ 1000000) (hfit : inf.bytes ≤ 100000)
    (hi : nthL l i = some o := by rfl) (hop : o.op = .call { callee := .builtin .append, args := #[r0.r.opd, r1.r.opd], argTypes := #[t, t] } := by rfl) (hd : o.dst = some d := by rfl) (hA : Fs.filter (aff [nc] i (some d)) = [.own d (ownS nc sz e (L ++ [τ])), .own p σ, .st i Fact.tru F0] := by rfl) (hj : dep dt j i = true ∧ dstOf l j = some p := by exact ⟨rfl, rfl⟩) (hpd : (p == d) = false := by rfl)
    (hCB : [nc].all (CB.contains ·) = true := by rfl) (hn : ([nc].contains 0 || [nc].contains 1) = false := by rfl) (hV : V d = TyC.any := by rfl) (hg : Gd l n dt V i o.guard := by first | exact trivial | exact ⟨rfl, _, ⟨rfl, rfl⟩, rfl⟩) : OpStep P l dt Q n a m D CB Fs V w0 c0 i := by
  intro b f w c x o' hJ hout hF hE ho K
  obtain rfl : o = o' := Option.some.inj (hi.symm.trans ho)
  obtain ⟨v0, ev0, sv0⟩ := r0.ev hJ hout hF hE K
  obtain ⟨v1, ev1, sv1⟩ := r1.ev hJ hout hF hE K
  obtain ⟨xs, h1, h2⟩ := H0 K sv0
  obtain ⟨g', ds, hlit, k2, k3, k4, k5⟩ := H1 K sv1
  obtain ⟨u, p1, p2, p3⟩ := k5 0 τ rfl
  obtain ⟨cs, hcs, q1, q2, q3⟩ := hs _ _ _ p2
  injection hcs with hcs
  subst hcs
  have hds : ds.size = sz := by simpa using k4
  have hdu : ds = u := by
    apply Array.ext (by rw [hds, p1])
    intro k hk1 hk2
    have := p3 k u[k] (Array.getElem?_eq_getElem hk2)
    rw [Nat.zero_mul, Nat.zero_add, Array.getElem?_eq_getElem hk1] at this
    injection this
  subst hdu
  have hlen : (L ++ [τ]).length = L.length + 1 := by simp
  obtain ⟨v2, w2, c2, r1', r2', r3'⟩ := app_run (P := P) (t := t) (ty := o.type) (m := 1) (cp' := 1) (news := ds.toList) (ad := ⟨g', 0, none⟩) h1 hJ.gi hn ht hi2 hz hsz hzc hzn (by simpa using hds) (fun j u hu => by rw [Addr.add_lit, Nat.zero_add]; exact k3.cell j (by simpa using hu)) (fun u hu => by have := Array.all_eq_true_iff_forall_mem.1 q2 u (by simpa using hu); exact this) q3 (by omega) (by omega) (by
    have : (L.length + 1) * inf.bytes ≤ 1000001 * 100000 := Nat.mul_le_mul (by omega) hfit
    omega)
  have hnew : (ownS nc sz e (L ++ [τ])).sat v2 w2 c2 := by
    refine ⟨_, by rw [hlen]; exact r3', ?_⟩
    have h2' := (catK sz L).stab h2 hJ.gi r2'
    have h3' : (catK sz [τ]).sat ds w2 c2 := (catK sz [τ]).stab k5 hJ.gi r2'
    have := cat_app (zs := #[]) h2' (by simpa using h1.1) h3' hds
    rw [Array.append_empty] at this
    have e : (xs ++ ds.toList).toArray = xs.toArray ++ ds := by simp
    rw [e]
    exact this
  have he : (execOp x.eval o).run P w = .ok (.value v2) w2 := by
    simp [execOp, hop, resolve, invoke, builtin, ev0, ev1, hlit, r1', Result.andThen]
  refine .run [nc] (some d) (hg.wanted hJ hF hE K) hd hCB (wp_val he ⟨_, c2, rfl, r2', fun d' _ => ?_, ?_⟩)
  · injection ‹some d = some d'› with hdd
    subst hdd
    rw [hV]
    trivial
  · rw [hA]
    exact ⟨own_now hnew, own_nyet hpd (unset_of hJ (K.nyet j hj.1) hj.2), ⟨fun _ => trivial, fun hb => by simp [bup] at hb⟩, trivial⟩
/-- A move of an owned value. -/
theorem sMvO (q p k : Nat) {o : Oper} {τ : TyO} (j : Nat) (hi : nthL l i = some o := by rfl) (hop : o.op = .move (.tmp q) ∨ o.op = .assign (.tmp q) := by first | exact .inl rfl | exact .inr rfl) (hd : o.dst = some p := by rfl) (hA : Fs.filter (aff [] i (some p)) = [.own p τ] := by rfl) (hk : nthR Fs k = .own q τ := by rfl) (hV : V p = TyC.any := by rfl) (hq : dep dt i j = true ∧ decide (q < n) = true ∧ dstOf l j = some q := by exact ⟨rfl, rfl, rfl⟩) (hg : Gd l n dt V i o.guard := by first | exact trivial | exact ⟨rfl, _, ⟨rfl, rfl⟩, rfl⟩) : OpStep P l dt Q n a m D CB Fs V w0 c0 i := by
  intro b f w c x o' hJ hout hF hE ho K
  obtain rfl : o = o' := Option.some.inj (hi.symm.trans ho)
  obtain ⟨v, ev, hfv⟩ : ∃ v, x.eval (.tmp q) = v ∧ f q = some v := by
    obtain ⟨h1, h2, h3⟩ := hq
    unfold dstOf at h3
    split at h3
    · rename_i oj hoj
      rw [nthL_eq] at hoj
      have h4 := (hJ.set j oj q (by simpa using hoj) h3).1 (K.done j h1)
      cases hf : f q with
      | none => exact absurd hf h4
      | some v => exact ⟨v, hF.in (by rw [hE.1]; exact of_decide_eq_true h2) hf, rfl⟩
    · cases h3
  exact .pure p (hg.wanted hJ hF hE K) hd (by rw [hA]; exact ⟨own_now (All.no K.fac k hk hfv), trivial⟩) hJ.gi (ex_move hop ev) (by rw [hV]; trivial)
/-- The address of an element of a known slice. -/
theorem sIxv (d : Nat) {o : Oper} {ty : TypeId} {u z z' : Value} (r0 : XA n l dt m D i) (r1 : XA n l dt m D i) (hz : ∀ {w : World} {c : Colr} {v v' : Value}, r0.r.T V w c v → r1.r.T V w c v' → r0.r.W v = z ∧ r1.r.W v' = z') (L : ∀ {w : World}, (Instr.indexAt ty z z').run P w = .ok u w) (hV : V d = TyC.eq u := by rfl) (hi : nthL l i = some o := by rfl) (hop : o.op = .indexAddr ty r0.r.opd r1.r.opd := by rfl) (hd : o.dst = some d := by rfl) (hA : Fs.filter (aff [] i (some d)) = [] := by rfl) (hg : Gd l n dt V i o.guard := by first | exact trivial | exact ⟨rfl, _, ⟨rfl, rfl⟩, rfl⟩) : OpStep P l dt Q n a m D CB Fs V w0 c0 i := by
  intro b f w c x o' hJ hout hF hE ho K
  obtain rfl : o = o' := Option.some.inj (hi.symm.trans ho)
  obtain ⟨v0, ev0, sv0⟩ := r0.ev hJ hout hF hE K
  obtain ⟨v1, ev1, sv1⟩ := r1.ev hJ hout hF hE K
  exact .pure d (hg.wanted hJ hF hE K) hd (by rw [hA]; trivial) hJ.gi (ex_index hop (ev0.trans (hz sv0 sv1).1) (ev1.trans (hz sv0 sv1).2) L) (by rw [hV]; rfl)
theorem own_cast {n sz : Nat} {t : TypeId} {L L' : List TyC} {v : Value} {w : World} {c : Colr} (e : L = L') (h : (ownS n sz t L).sat v w c) : (ownS n sz t L').sat v w c := e ▸ h
end
theorem map_take_succ {α : Type} {d : α} {f : α → TyC} {xs : List α} {k : Nat} (h : k < xs.length) : (xs.take k).map f ++ [f (xs.getD k d)] = (xs.take (k + 1)).map f := by
  rw [List.take_succ_eq_append_getElem h, List.map_append]
  simp [List.getD, List.getElem?_eq_getElem h]
theorem map_take_at {α : Type} {d : α} {f : α → TyC} {xs : List α} {k m : Nat} (h : k < m) (hm : m ≤ xs.length) : ((xs.take m).map f)[k]? = some (f (xs.getD k d)) := by
  rw [List.getElem?_map, List.getElem?_take_of_lt h, List.getElem?_eq_getElem (by omega)]
  simp [List.getD, List.getElem?_eq_getElem (show k < xs.length by omega)]
theorem run_neqb {P : Program} {w : World} {t : TypeId} (ht : P.underlying t = some .bool) (a b : Bool) : (binOp .neq t (.bool a) (.bool b)).run P w = .ok (.bool (!(a == b))) w := by
  obtain ⟨k, hk⟩ : ∃ k, Op.maxDepth = k + 1 := ⟨_, rfl⟩
  have h : (Op.equalIn Op.maxDepth t (.bool a) (.bool b)).run P w = .ok (a == b) w := by
    rw [hk]
    simp [Op.equalIn, run_underlying ht]
  simp [binOp, Op.equal, h, go_sem]
end Go.Col

namespace Go
section
variable {H : Type} {enc : TypeId × Value → H}
theorem lift_and_shaped {a : Assume} {C : Checked} {os : Os} {f : FuncId} {fn : Func} {s : ChangeSpec} {conds : List PathCond} {apart fresh handsOn again : Bool} {X : World → Array Value → Prop}
    (hX : ∀ (w w' : World) (args : Array Value), w.heap = w'.heap → X w args → X w' args)
    (own : ownKnob C.prog.godebug = none) (started : os.Started) (noInit : C.prog.inits.idxOf? f = none) (hfn : C.prog.funcs[f]? = some fn)
    (witness : ∃ (w : World) (tape : Tape) (i : Input), w.os = os ∧ (w.forCall tape i).Shaped C.prog ∧ i.vars = [] ∧ Input.okWide C.prog (w.forCall tape i) .any w.heap.size f i ∧
      ((s.pre enc C.prog fn conds apart (w.forCall tape i).memory i.args ∧ X (w.forCall tape i).memory i.args) ∧ sizedMet enc C.prog fn (OpenSpec.ofChange s) apart (w.forCall tape i).memory i.args) ∧ a.holds C.prog (lone (Frame.enter C.prog f i.args .normal) [] (w.forCall tape i)))
    (contract : ∀ (W : World) (base : Nat) (args : Array Value) (ds gs : List (DataW H)) (before : List MemPlace), W.ShapedOpen C.prog →
      (∀ (j : Nat) t v, fn.params[j]? = some t → args[j]? = some v → Value.okWide C.prog W .any base t v) →
      DataW.Whole enc C.prog fn.params.toList s.vars apart W args.toList ds gs before →
      conds.all (PathCond.test C.prog ⟨fn.params.toList, ds, s.plain.varTypes C.prog, gs⟩) = true →
      (DataW.weightsEach C.prog (fn.params.toList ++ s.plain.varTypes C.prog) (ds ++ gs)).all (· ≤ reachBytes) = true → X W args →
      a.holds C.prog (lone (Frame.enter C.prog f args .normal) [] W) →
      Calls C.prog f args W fun e W' => ∃ v, e = .returned v ∧ s.post enc C.prog fn apart fresh handsOn again W args v W') :
    ReturnsInHanded a C os f .any (fun w args => (s.pre enc C.prog fn conds apart w args ∧ X w args) ∧ sizedMet enc C.prog fn (OpenSpec.ofChange s) apart w args) (s.post enc C.prog fn apart fresh handsOn again) := by
  refine returnsInHanded_of_calls own started noInit witness ?_
  intro w tape i _ hsh _ hok hpre hholds
  obtain ⟨_, _, _, fn', hfn', _, _, _, _, hval⟩ := hok
  have e : fn' = fn := Option.some.inj (hfn'.symm.trans hfn)
  subst e
  obtain ⟨⟨⟨ds, gs, before, hw, hc⟩, hx⟩, hz⟩ := hpre
  have hw' := DataW.Whole.of_heap (w' := w.forCall tape i) (by rfl) hw
  refine (contract (w.forCall tape i) w.heap.size i.args ds gs before hsh hval hw' hc (hz.weights hw) (hX _ _ _ (by rfl) hx) hholds).mono fun e W' ⟨v, he, hp⟩ => ?_
  subst he
  exact ChangeSpec.post_blind hp
end
end Go

namespace Go.Mem
open Go.RowKit

theorem int_fits {a : Int} (h : (Lit.int .i64 a).wf = true) : -9223372036854775808 ≤ a ∧ a ≤ 9223372036854775807 := by
  simp [Lit.wf, IntKind.min, IntKind.max, IntKind.signed, IntKind.bits] at h
  omega
end Go.Mem
