/- The walks of the trie's width and of Build. -/
import Derived.Test.YthjpfplebbnbpaaGreatLev
namespace Go.Proofs.YthjpfplebbnbpaaGreat
open Go.ChangeShapes Go.WideShapes Go.ChangeAt Go.RowKit
/-- A trie that is being built: since w0 nothing old was touched; its levels are ls. -/
structure TrSt (w0 : World) (pt g N : Nat) (ls : List Lev) (w : World) : Prop where
  old : Ext w0 w
  lev : LevsAt w0.heap.size w g ls
  top : w.heap[pt]? = some (.cells #[.slice (some ⟨g, 0, none⟩) ls.length ls.length, .int .i64 (N : Int), .bool true] 76 (0, 0))
  pt : w0.heap.size ≤ pt
theorem TrSt.cells {w0 : World} {pt g N : Nat} {ls : List Lev} {w : World} (h : TrSt w0 pt g N ls w) : w.cell? ⟨pt, 0, none⟩ = some (.slice (some ⟨g, 0, none⟩) ls.length ls.length) ∧ w.cell? ⟨pt, 1, none⟩ = some (.int .i64 (N : Int)) ∧ w.cell? ⟨pt, 2, none⟩ = some (.bool true) := by
  simp [World.cell?, h.top]
theorem TrSt.ext {w0 : World} {pt g N : Nat} {ls : List Lev} {w w' : World} (h : TrSt w0 pt g N ls w) (e : Ext w w') : TrSt w0 pt g N ls w' := ⟨ext_trans h.old e, h.lev.ext e, (e.block pt (Array.getElem?_eq_some_iff.1 h.top).1).trans h.top, h.pt⟩
theorem c_width (pt g d i : Nat) (ways : Int) (res : Int) (w : World) (h0 : w.cell? ⟨pt, 0, none⟩ = some (.slice (some ⟨g, 0, none⟩) d d)) (h1 : i < d → ∃ a n c, w.cell? ⟨g, i * 2, none⟩ = some (.slice a n c) ∧ res = (n : Int)) (h2 : d ≤ i → res = ways) :
    Calls Tryz.prog 56 #[.pointer (some ⟨pt, 0, none⟩), .int .i64 (i : Int), .int .i64 ways] w fun e w' => e = .returned (.int .i64 res) ∧ w' = w := by
  by_cases hlt : i < d
  · have l1 : (i : Int) < (d : Int) := by omega
    obtain ⟨a, n, c, hc, rfl⟩ := h1 hlt
    clear h1 h2
    go_enter Tryz.func56, Tryz.ntmps56
    go_wp2
    go_returns
    exact ⟨rfl, rfl⟩
  · have l1 : ¬ (i : Int) < (d : Int) := by omega
    obtain rfl := h2 (by omega)
    clear h1 h2
    go_enter Tryz.func56, Tryz.ntmps56
    go_wp2
    go_returns
    exact ⟨rfl, rfl⟩
theorem TrSt.width {w0 : World} {pt g N : Nat} {ls : List Lev} {w : World} (h : TrSt w0 pt g N ls w) {i : Nat} {ways : Int} {res : Int} (h1 : ∀ l, ls[i]? = some l → res = (l.ks.length : Int)) (h2 : ls.length ≤ i → res = ways) :
    Calls Tryz.prog 56 #[.pointer (some ⟨pt, 0, none⟩), .int .i64 (i : Int), .int .i64 ways] w fun e w' => e = .returned (.int .i64 res) ∧ w' = w := by
  refine c_width pt g ls.length i ways res w h.cells.1 (fun hlt => ?_) h2
  have hl : ls[i]? = some ls[i] := List.getElem?_eq_getElem hlt
  obtain ⟨a, c, e, _⟩ := own_form (h.lev.ks i _ hl)
  refine ⟨a, _, c, ?_, h1 _ hl⟩
  rw [← e]
  exact (h.lev.cell hl).1
/-- One key more in level i. -/
theorem TrSt.pushK {w0 : World} {pt g N : Nat} {ls : List Lev} {w w1 : World} (h : TrSt w0 pt g N ls w) {i : Nat} {l : Lev} (hl : ls[i]? = some l) {o : Obj} {v' : Value} {t : ByteArray}
    (r1 : w1.ownsRow w0.heap.size 9 1 v' (l.ks.length + 1) (l.ks.map Value.string ++ [Value.string t])) (r2 : (w.alloc o).grownBy w1 l.kv.ownBlock) (r3 : ∀ b, v'.ownBlock = some b → l.kv.ownBlock = some b ∨ b = (w.alloc o).heap.size) :
    w1.cell? ⟨g, i * 2, none⟩ = some l.kv ∧ w1.frozen? ⟨g, i * 2, none⟩ = false ∧ w1.cell? ⟨pt, 0, none⟩ = some (.slice (some ⟨g, 0, none⟩) ls.length ls.length) ∧ TrSt w0 pt g N (ls.set i { l with kv := v', ks := l.ks ++ [t] }) (w1.setCell ⟨g, i * 2, none⟩ v') := by
  obtain ⟨p1, p2, p3, p4⟩ := h.lev.pushK hl r1 r2 r3
  rw [Nat.add_zero] at p1 p2 p3 p4
  have hpt : w1.heap[pt]? = w.heap[pt]? := by
    have hlt := (Array.getElem?_eq_some_iff.1 h.top).1
    refine (r2.block pt (by simp; omega) (fun e => ?_)).trans (heap_alloc_old w o hlt)
    rcases (h.lev.ks i l hl).2 with ⟨e1, _⟩ | ⟨g', c', cur, e1, _, hg, _⟩
    · rw [e1] at e; cases e
    · rw [e1] at e
      cases e
      rw [h.top] at hg
      cases hg
  have hgp : g ≠ pt := by
    rintro rfl
    rcases h.lev.row.2 with ⟨e1, _⟩ | ⟨g', c', cur, e1, _, hg, _⟩
    · cases e1
    · cases e1
      rw [h.top] at hg
      cases hg
  refine ⟨p1, p2, ?_, ext_of_but h.old p4 (fun b hb => by omega), p3, ?_, h.pt⟩
  · rw [World.cell?_of_block hpt]
    exact h.cells.1
  · rw [List.length_set, heap_setCell_other _ _ _ _ (fun e => hgp e.symm), hpt]
    exact h.top
theorem TrSt.pushF {w0 : World} {pt g N : Nat} {ls : List Lev} {w w1 : World} (h : TrSt w0 pt g N ls w) {i : Nat} {l : Lev} (hl : ls[i]? = some l) {o : Obj} {v' : Value} {t : Int}
    (r1 : w1.ownsRow w0.heap.size 3 1 v' (l.fs.length + 1) (l.fs.map intV ++ [intV t])) (r2 : (w.alloc o).grownBy w1 l.fv.ownBlock) (r3 : ∀ b, v'.ownBlock = some b → l.fv.ownBlock = some b ∨ b = (w.alloc o).heap.size) :
    w1.cell? ⟨g, i * 2 + 1, none⟩ = some l.fv ∧ w1.frozen? ⟨g, i * 2 + 1, none⟩ = false ∧ w1.cell? ⟨pt, 0, none⟩ = some (.slice (some ⟨g, 0, none⟩) ls.length ls.length) ∧ TrSt w0 pt g N (ls.set i { l with fv := v', fs := l.fs ++ [t] }) (w1.setCell ⟨g, i * 2 + 1, none⟩ v') := by
  obtain ⟨p1, p2, p3, p4⟩ := h.lev.pushF hl r1 r2 r3
  have hpt : w1.heap[pt]? = w.heap[pt]? := by
    have hlt := (Array.getElem?_eq_some_iff.1 h.top).1
    refine (r2.block pt (by simp; omega) (fun e => ?_)).trans (heap_alloc_old w o hlt)
    rcases (h.lev.fs i l hl).2 with ⟨e1, _⟩ | ⟨g', c', cur, e1, _, hg, _⟩
    · rw [e1] at e; cases e
    · rw [e1] at e
      cases e
      rw [h.top] at hg
      cases hg
  have hgp : g ≠ pt := by
    rintro rfl
    rcases h.lev.row.2 with ⟨e1, _⟩ | ⟨g', c', cur, e1, _, hg, _⟩
    · cases e1
    · cases e1
      rw [h.top] at hg
      cases hg
  refine ⟨p1, p2, ?_, ext_of_but h.old p4 (fun b hb => by omega), p3, ?_, h.pt⟩
  · rw [World.cell?_of_block hpt]
    exact h.cells.1
  · rw [List.length_set, heap_setCell_other _ _ _ _ (fun e => hgp e.symm), hpt]
    exact h.top
end Go.Proofs.YthjpfplebbnbpaaGreat
