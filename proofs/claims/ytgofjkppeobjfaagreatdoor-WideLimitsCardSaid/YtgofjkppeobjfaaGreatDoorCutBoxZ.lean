/- Regions that make boxes and draw their order: what they leave, whatever the order. -/
import Derived.Test.YtgofjkppeobjfaaGreatDoorB5
import Derived.Test.YtgofjkppeobjfaaGreatDoorTextIZ
import Derived.Test.YtgofjkppeobjfaaGreatDoorTextKZ
namespace Go.Proofs.YtgofjkppeobjfaaGreatDoor
set_option linter.unusedVariables false
open Go.RowKit Go.Mem Go.Dig

theorem New.set2 {W W' : World} {g : Nat} (h : New W W') (hg : W.heap.size ≤ g) (a b : Value) : New W ((W'.setCell ⟨g, 0, none⟩ a).setCell ⟨g, 1, none⟩ b) := Chg.owned h (Chg.at2 _ _ _ _) (fun k e => by omega)
def CutR (W : World) (z : Int) (v : Value) (wc : World) : Prop := ∃ g s A n c, v = .pointer (some ⟨g, 0, none⟩) ∧ RX wc g s A n c z ∧ New W wc
def CutW (W : World) (z : Int) (v : Value) (wc : World) : Prop := ∃ g s A n c, v = .pointer (some ⟨g, 0, none⟩) ∧ WX wc g s A n c z ∧ New W wc
def CutRR (W : World) (z z' : Int) (v v' : Value) (wc : World) : Prop := ∃ g s A n c g' s' A' n' c', v = .pointer (some ⟨g, 0, none⟩) ∧ v' = .pointer (some ⟨g', 0, none⟩) ∧ RX wc g s A n c z ∧ RX wc g' s' A' n' c' z' ∧ New W wc
theorem RN.put {W : World} {g : Nat} {t : TypeId} {s : Bool} {A : Option Addr} {n c : Nat} {v : Value} {z : Int} (h : RN W v z) (hb : Blk W g t #[.bool s, .slice A n c]) (a b : Value) : RN ((W.setCell ⟨g, 0, none⟩ a).setCell ⟨g, 1, none⟩ b) v z := h.store hb (noInt_two' _ _ _ _) (Chg.at2 _ _ _ _)
theorem WI.put {W : World} {g : Nat} {t : TypeId} {s : Bool} {A : Option Addr} {n c : Nat} {v : Value} {z : Int} (h : WI W v z) (hb : Blk W g t #[.bool s, .slice A n c]) (a b : Value) : WI ((W.setCell ⟨g, 0, none⟩ a).setCell ⟨g, 1, none⟩ b) v z := h.store hb (noInt_two _ _ _ _) (Chg.at2 _ _ _ _)

section
variable {W w5 : World} {z z' : Int} {s s' : Bool} {A A' : Option Addr} {n n' c c' g g' : Nat}
theorem CutR.late (hN : New W w5) (h : RN w5 (.agg #[.bool s, .slice A n c]) z) :
    Hid (CutR W z (.pointer (some ⟨w5.heap.size, 0, none⟩)) (w5.alloc (.cells #[.bool s, .slice A n c] 24))) :=
  ⟨_, s, A, n, c, rfl, ⟨Blk.new _ _ _, h.new ((Chg.refl _ _).alloc _)⟩, hN.alloc _⟩
theorem CutR.early (hN : New W w5) (h : RN w5 (.agg #[.bool s, .slice A n c]) z) (hb : Blk w5 g 24 #[.bool false, .slice none 0 0]) (hg : W.heap.size ≤ g) :
    Hid (CutR W z (.pointer (some ⟨g, 0, none⟩)) ((w5.setCell ⟨g, 0, none⟩ (.bool s)).setCell ⟨g, 1, none⟩ (.slice A n c))) :=
  ⟨_, s, A, n, c, rfl, ⟨hb.set2 _ _, h.put hb _ _⟩, New.set2 hN hg _ _⟩
theorem CutW.late (hN : New W w5) (h : WI w5 (.agg #[.bool s, .slice A n c]) z) :
    Hid (CutW W z (.pointer (some ⟨w5.heap.size, 0, none⟩)) (w5.alloc (.cells #[.bool s, .slice A n c] 29))) :=
  ⟨_, s, A, n, c, rfl, ⟨Blk.new _ _ _, h.new ((Chg.refl _ _).alloc _)⟩, hN.alloc _⟩
theorem CutW.early (hN : New W w5) (h : WI w5 (.agg #[.bool s, .slice A n c]) z) (hb : Blk w5 g 29 #[.bool false, .slice none 0 0]) (hg : W.heap.size ≤ g) :
    Hid (CutW W z (.pointer (some ⟨g, 0, none⟩)) ((w5.setCell ⟨g, 0, none⟩ (.bool s)).setCell ⟨g, 1, none⟩ (.slice A n c))) :=
  ⟨_, s, A, n, c, rfl, ⟨hb.set2 _ _, h.put hb _ _⟩, New.set2 hN hg _ _⟩
theorem Blk.two (w : World) (t : TypeId) (o : Obj) (cs : Array Value) : Blk ((w.alloc o).alloc (.cells cs t)) (w.heap.size + 1) t cs := by
  have := Blk.new (w.alloc o) t cs
  rwa [World.size_alloc] at this
theorem CutRR.ll (hN : New W w5) (h : RN w5 (.agg #[.bool s, .slice A n c]) z) (h' : RN w5 (.agg #[.bool s', .slice A' n' c']) z') :
    Hid (CutRR W z z' (.pointer (some ⟨w5.heap.size, 0, none⟩)) (.pointer (some ⟨w5.heap.size + 1, 0, none⟩)) ((w5.alloc (.cells #[.bool s, .slice A n c] 24)).alloc (.cells #[.bool s', .slice A' n' c'] 24))) :=
  ⟨_, s, A, n, c, _, s', A', n', c', rfl, rfl, ⟨(Blk.new _ _ _).alloc _, h.new (((Chg.refl _ _).alloc _).alloc _)⟩, ⟨Blk.two _ _ _ _, h'.new (((Chg.refl _ _).alloc _).alloc _)⟩, (hN.alloc _).alloc _⟩
theorem CutRR.ll' (hN : New W w5) (h : RN w5 (.agg #[.bool s, .slice A n c]) z) (h' : RN w5 (.agg #[.bool s', .slice A' n' c']) z') :
    Hid (CutRR W z z' (.pointer (some ⟨w5.heap.size + 1, 0, none⟩)) (.pointer (some ⟨w5.heap.size, 0, none⟩)) ((w5.alloc (.cells #[.bool s', .slice A' n' c'] 24)).alloc (.cells #[.bool s, .slice A n c] 24))) :=
  ⟨_, s, A, n, c, _, s', A', n', c', rfl, rfl, ⟨Blk.two _ _ _ _, h.new (((Chg.refl _ _).alloc _).alloc _)⟩, ⟨(Blk.new _ _ _).alloc _, h'.new (((Chg.refl _ _).alloc _).alloc _)⟩, (hN.alloc _).alloc _⟩
theorem size_set2 (w : World) (g : Nat) (a b : Value) : ((w.setCell ⟨g, 0, none⟩ a).setCell ⟨g, 1, none⟩ b).heap.size = w.heap.size := by simp
theorem CutRR.el (hN : New W w5) (h : RN w5 (.agg #[.bool s, .slice A n c]) z) (h' : RN w5 (.agg #[.bool s', .slice A' n' c']) z') (hb : Blk w5 g 24 #[.bool false, .slice none 0 0]) (hg : W.heap.size ≤ g) :
    Hid (CutRR W z z' (.pointer (some ⟨g, 0, none⟩)) (.pointer (some ⟨w5.heap.size, 0, none⟩)) (((w5.setCell ⟨g, 0, none⟩ (.bool s)).setCell ⟨g, 1, none⟩ (.slice A n c)).alloc (.cells #[.bool s', .slice A' n' c'] 24))) :=
  ⟨_, s, A, n, c, _, s', A', n', c', rfl, rfl, ⟨(hb.set2 _ _).alloc _, (h.put hb _ _).new ((Chg.refl _ _).alloc _)⟩, ⟨Blk.new' (size_set2 _ _ _ _).symm, (h'.put hb _ _).new ((Chg.refl _ _).alloc _)⟩, (New.set2 hN hg _ _).alloc _⟩
theorem CutRR.el' (hN : New W w5) (h : RN w5 (.agg #[.bool s, .slice A n c]) z) (h' : RN w5 (.agg #[.bool s', .slice A' n' c']) z') (hb : Blk w5 g 24 #[.bool false, .slice none 0 0]) (hg : W.heap.size ≤ g) :
    Hid (CutRR W z z' (.pointer (some ⟨w5.heap.size, 0, none⟩)) (.pointer (some ⟨g, 0, none⟩)) (((w5.setCell ⟨g, 0, none⟩ (.bool s')).setCell ⟨g, 1, none⟩ (.slice A' n' c')).alloc (.cells #[.bool s, .slice A n c] 24))) :=
  ⟨_, s, A, n, c, _, s', A', n', c', rfl, rfl, ⟨Blk.new' (size_set2 _ _ _ _).symm, (h.put hb _ _).new ((Chg.refl _ _).alloc _)⟩, ⟨(hb.set2 _ _).alloc _, (h'.put hb _ _).new ((Chg.refl _ _).alloc _)⟩, (New.set2 hN hg _ _).alloc _⟩
theorem CutRR.ee (hN : New W w5) (h : RN w5 (.agg #[.bool s, .slice A n c]) z) (h' : RN w5 (.agg #[.bool s', .slice A' n' c']) z') (hb : Blk w5 g 24 #[.bool false, .slice none 0 0]) (hg : W.heap.size ≤ g) (hb' : Blk w5 g' 24 #[.bool false, .slice none 0 0]) (hg' : W.heap.size ≤ g') (hne : g ≠ g') :
    Hid (CutRR W z z' (.pointer (some ⟨g, 0, none⟩)) (.pointer (some ⟨g', 0, none⟩)) ((((w5.setCell ⟨g, 0, none⟩ (.bool s)).setCell ⟨g, 1, none⟩ (.slice A n c)).setCell ⟨g', 0, none⟩ (.bool s')).setCell ⟨g', 1, none⟩ (.slice A' n' c'))) := by
  have hbb := blk22 hb hb' hne (.bool s) (.slice A n c) (.bool s') (.slice A' n' c')
  refine ⟨_, s, A, n, c, _, s', A', n', c', rfl, rfl, ⟨hbb.1, ?_⟩, ⟨hbb.2, ?_⟩, New.set2 (New.set2 hN hg _ _) hg' _ _⟩
  · exact h.store22 hb hb' hne (noInt_two' _ _ _ _) (noInt_two' _ _ _ _) _ _ _ _
  · exact h'.store22 hb hb' hne (noInt_two' _ _ _ _) (noInt_two' _ _ _ _) _ _ _ _
theorem CutRR.ee' (hN : New W w5) (h : RN w5 (.agg #[.bool s, .slice A n c]) z) (h' : RN w5 (.agg #[.bool s', .slice A' n' c']) z') (hb : Blk w5 g 24 #[.bool false, .slice none 0 0]) (hg : W.heap.size ≤ g) (hb' : Blk w5 g' 24 #[.bool false, .slice none 0 0]) (hg' : W.heap.size ≤ g') (hne : g ≠ g') :
    Hid (CutRR W z z' (.pointer (some ⟨g, 0, none⟩)) (.pointer (some ⟨g', 0, none⟩)) ((((w5.setCell ⟨g', 0, none⟩ (.bool s')).setCell ⟨g', 1, none⟩ (.slice A' n' c')).setCell ⟨g, 0, none⟩ (.bool s)).setCell ⟨g, 1, none⟩ (.slice A n c))) := by
  have hbb := blk22 hb' hb hne.symm (.bool s') (.slice A' n' c') (.bool s) (.slice A n c)
  refine ⟨_, s, A, n, c, _, s', A', n', c', rfl, rfl, ⟨hbb.2, ?_⟩, ⟨hbb.1, ?_⟩, New.set2 (New.set2 hN hg' _ _) hg _ _⟩
  · exact h.store22 hb' hb hne.symm (noInt_two' _ _ _ _) (noInt_two' _ _ _ _) _ _ _ _
  · exact h'.store22 hb' hb hne.symm (noInt_two' _ _ _ _) (noInt_two' _ _ _ _) _ _ _ _
end
end Go.Proofs.YtgofjkppeobjfaaGreatDoor
