/- General lemmas on worlds, cells and slices, over any program. No conditions but those of each lemma. -/
import Derived.WalkKit
import Derived.ProofKit
import Derived.OpenShut
import Derived.WalkLawsBesides
import Derived.WalkSpells
import Derived.Outline
import Derived.Handy
import Derived.Lib.Hide
import Derived.Deep.RegionWith
import Derived.Deep.QuietTactic
import Derived.BigQuiet
import Derived.Deep.RegionHeld3
import Derived.Laws.RangeAny
import Derived.Deep.DeepCutAuto
namespace Go.Proofs.Ytcphjfggjjonpaa
open Go.RowKit

theorem wp_gen {P : Program} {c : Code} {Q : Exit → Act → World → Prop} {a : Act} {w : World} (h : ∀ W, W = w → c.wp P Q a W) : c.wp P Q a w := h w rfl

/-- The world w grew to w': what was there stands. -/
abbrev Ext (w w' : World) : Prop := Below w.heap.size w w'
theorem ext_trans {a b c : World} (h : Ext a b) (k : Ext b c) : Ext a c := h.trans (k.mono h.size)
theorem ext_after {a b c : World} (k : Ext b c) (h : Ext a b) : Ext a c := ext_trans h k
theorem ext_alloc {a b : World} (h : Ext a b) (o : Obj) : Ext a (b.alloc o) := h.alloc h.size o
theorem ext_drew {a b : World} (h : Ext a b) : Ext a b.drew := h.drew
theorem ext_drewN {a b : World} (h : Ext a b) (n : Nat) : Ext a (b.drewN n) := below_drewN h n
theorem ext_set {a b : World} (h : Ext a b) {p : Addr} (hp : a.heap.size ≤ p.block) (v : Value) : Ext a (b.setCell p v) := h.setCell hp v
theorem keep {W w : World} {p : Addr} {v : Value} (hb : Ext W w) (h : W.cell? p = some v) : w.cell? p = some v := by
  rw [hb.cell (World.block_lt_of_cell? W p h)]; exact h
theorem toList_eq_iff (s : ByteArray) (l : List UInt8) : s.toList = l ↔ s = ⟨l.toArray⟩ := by
  rw [ByteArray.toList_eq]
  obtain ⟨⟨x⟩⟩ := s
  simp
theorem text_empty (s : ByteArray) : s.toList.isEmpty = true ↔ s = ⟨#[]⟩ := by
  rw [List.isEmpty_iff, toList_eq_iff]
theorem text_full (s : ByteArray) : s.toList.isEmpty = false ↔ ¬ s = ⟨#[]⟩ := by
  rw [← text_empty]; simp
theorem text_is (s : ByteArray) (l : List UInt8) : (s.toList == l) = true ↔ s = ⟨l.toArray⟩ := by
  rw [beq_iff_eq, toList_eq_iff]
theorem text_isnt (s : ByteArray) (l : List UInt8) : (s.toList == l) = false ↔ ¬ s = ⟨l.toArray⟩ := by
  rw [← text_is]; simp
theorem ret_int {k : IntKind} {a b : Int} (h : a = b) : Ending.returned (.int k a) = .returned (.int k b) := by rw [h]
theorem ret_bool {a b : Bool} (h : a = b) : Ending.returned (.bool a) = .returned (.bool b) := by rw [h]
end Go.Proofs.Ytcphjfggjjonpaa
