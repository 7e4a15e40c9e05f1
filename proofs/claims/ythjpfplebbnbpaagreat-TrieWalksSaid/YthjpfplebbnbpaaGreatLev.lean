/- The levels of a trie in memory, while they are built: each level's two rows are the call's own, and share no block. -/
import Derived.Test.YthjpfplebbnbpaaGreatProj
namespace Go.Proofs.YthjpfplebbnbpaaGreat
open Go.ChangeShapes Go.WideShapes Go.ChangeAt Go.RowKit
/-- A level as it lies: its two slices, and what they hold. -/
structure Lev where
  kv : Value
  fv : Value
  ks : List ByteArray
  fs : List Int
def levV (l : Lev) : List Value := [l.kv, l.fv]
structure LevsAt (lo : Nat) (w : World) (g : Nat) (ls : List Lev) : Prop where
  row : w.ownsRow lo 79 2 (.slice (some ⟨g, 0, none⟩) ls.length ls.length) ls.length (ls.flatMap levV)
  ks : ∀ (i : Nat) (l : Lev), ls[i]? = some l → w.ownsRow lo 9 1 l.kv l.ks.length (l.ks.map Value.string)
  fs : ∀ (i : Nat) (l : Lev), ls[i]? = some l → w.ownsRow lo 3 1 l.fv l.fs.length (l.fs.map intV)
  kd : ∀ (i j : Nat) (a b : Lev), i ≠ j → ls[i]? = some a → ls[j]? = some b → a.kv.ownBlock = none ∨ a.kv.ownBlock ≠ b.kv.ownBlock
  fd : ∀ (i j : Nat) (a b : Lev), i ≠ j → ls[i]? = some a → ls[j]? = some b → a.fv.ownBlock = none ∨ a.fv.ownBlock ≠ b.fv.ownBlock
theorem levs_set (ls : List Lev) (i : Nat) (l l' : Lev) (j : Nat) (v : Value) (hl : ls[i]? = some l) (hj : j < 2) (hv : levV l' = (levV l).set j v) : (ls.flatMap levV).set (i * 2 + j) v = (ls.set i l').flatMap levV := by
  induction ls generalizing i with
  | nil => cases hl
  | cons a ls ih =>
    cases i with
    | zero =>
      rw [List.getElem?_cons_zero] at hl
      cases hl
      rw [List.set_cons_zero, List.flatMap_cons, List.flatMap_cons, Nat.zero_mul, Nat.zero_add, List.set_append_left _ _ (by simp [levV]; omega), hv]
    | succ i =>
      rw [List.getElem?_cons_succ] at hl
      rw [List.set_cons_succ, List.flatMap_cons, List.flatMap_cons, List.set_append_right _ _ (by simp [levV]; omega), ← ih i hl]
      congr 1
      simp only [levV, List.length_cons, List.length_nil]
      rw [show (i + 1) * 2 + j - (0 + 1 + 1) = i * 2 + j by omega]
theorem levs_at (ls : List Lev) (i : Nat) (l : Lev) (hl : ls[i]? = some l) : (ls.flatMap levV)[i * 2]? = some l.kv ∧ (ls.flatMap levV)[i * 2 + 1]? = some l.fv := by
  induction ls generalizing i with
  | nil => cases hl
  | cons a ls ih =>
    cases i with
    | zero =>
      rw [List.getElem?_cons_zero] at hl
      cases hl
      simp [levV]
    | succ i =>
      rw [List.getElem?_cons_succ] at hl
      obtain ⟨h1, h2⟩ := ih i hl
      rw [List.flatMap_cons, List.getElem?_append_right (by simp [levV]; omega), List.getElem?_append_right (by simp [levV]; omega)]
      simp only [levV, List.length_cons, List.length_nil]
      rw [show (i + 1) * 2 - (0 + 1 + 1) = i * 2 by omega, show (i + 1) * 2 + 1 - (0 + 1 + 1) = i * 2 + 1 by omega]
      exact ⟨h1, h2⟩
theorem LevsAt.cell {lo : Nat} {w : World} {g : Nat} {ls : List Lev} (h : LevsAt lo w g ls) {i : Nat} {l : Lev} (hl : ls[i]? = some l) : w.cell? ⟨g, i * 2, none⟩ = some l.kv ∧ w.cell? ⟨g, i * 2 + 1, none⟩ = some l.fv := by
  obtain ⟨h1, h2⟩ := levs_at ls i l hl
  have c1 := h.row.cells (g := g) rfl _ _ h1
  have c2 := h.row.cells (g := g) rfl _ _ h2
  rw [Addr.add_lit, Nat.zero_add] at c1 c2
  exact ⟨c1, c2⟩
theorem LevsAt.ext {lo : Nat} {w w' : World} {g : Nat} {ls : List Lev} (h : LevsAt lo w g ls) (e : Ext w w') : LevsAt lo w' g ls := ⟨up_ext h.row e, fun i l hl => up_ext (h.ks i l hl) e, fun i l hl => up_ext (h.fs i l hl) e, h.kd, h.fd⟩
theorem own_hi {w : World} {base n size : Nat} {e : TypeId} {v : Value} {xs : List Value} (h : w.ownsRow base e size v n xs) {b : Nat} (hb : v.ownBlock = some b) : b < w.heap.size := (h.lt b hb).2
theorem Lev.get_set {ls : List Lev} {i j : Nat} {l' a : Lev} (h : (ls.set i l')[j]? = some a) : j = i ∧ a = l' ∨ j ≠ i ∧ ls[j]? = some a := by
  by_cases e : i = j
  · subst e
    have := (List.getElem?_eq_some_iff.1 h).1
    rw [List.length_set] at this
    rw [List.getElem?_set_self this] at h
    cases h
    exact .inl ⟨rfl, rfl⟩
  · rw [List.getElem?_set_ne e] at h
    exact .inr ⟨fun e2 => e e2.symm, h⟩
theorem LevsAt.pushK {lo : Nat} {w w1 : World} {g : Nat} {ls : List Lev} (h : LevsAt lo w g ls) {i : Nat} {l : Lev} (hl : ls[i]? = some l) {o : Obj} {v' : Value} {t : ByteArray}
    (r1 : w1.ownsRow lo 9 1 v' (l.ks.length + 1) (l.ks.map Value.string ++ [Value.string t])) (r2 : (w.alloc o).grownBy w1 l.kv.ownBlock) (r3 : ∀ b, v'.ownBlock = some b → l.kv.ownBlock = some b ∨ b = (w.alloc o).heap.size) :
    w1.cell? ⟨g, i * 2 + 0, none⟩ = some l.kv ∧ w1.frozen? ⟨g, i * 2 + 0, none⟩ = false ∧ LevsAt lo (w1.setCell ⟨g, i * 2 + 0, none⟩ v') g (ls.set i { l with kv := v', ks := l.ks ++ [t] }) ∧ ButS (fun b => lo ≤ b) w (w1.setCell ⟨g, i * 2 + 0, none⟩ v') := by
  have hrow1 := (h.row.alloc o).kept r2 (own_apart (h.row.alloc o) ((h.ks i l hl).alloc o) (by decide))
  obtain ⟨hs1, hs2⟩ := hrow1.stored (i * 2 + 0) v'
  have hgl : lo ≤ g := (h.row.lt g rfl).1
  have alc : (w.alloc o).heap.size = w.heap.size + 1 := by simp
  have hcell : w1.cell? ⟨g, i * 2 + 0, none⟩ = some l.kv := by
    have := hrow1.cells (g := g) rfl _ _ (levs_at ls i l hl).1
    rwa [Addr.add_lit, Nat.zero_add] at this
  have other : ∀ {e : TypeId} {v : Value} {n : Nat} {xs : List Value}, w1.ownsRow lo e 1 v n xs → e ≠ 79 → (w1.setCell ⟨g, i * 2 + 0, none⟩ v').ownsRow lo e 1 v n xs := fun hh hne => own_set_other (a := ⟨g, i * 2 + 0, none⟩) hh (own_apart hh hrow1 hne) _
  have e1 := levs_set ls i l { l with kv := v', ks := l.ks ++ [t] } 0 v' hl (by omega) rfl
  refine ⟨hcell, hrow1.frozenAt _, ⟨?_, fun j a ha => ?_, fun j a ha => ?_, fun j k a b hjk ha hb => ?_, fun j k a b hjk ha hb => ?_⟩, ?_⟩
  · rw [← e1, List.length_set]
    exact hs1
  · rcases Lev.get_set ha with ⟨rfl, rfl⟩ | ⟨hne, ha⟩
    · refine other ?_ (by decide)
      show w1.ownsRow lo 9 1 v' (l.ks ++ [t]).length ((l.ks ++ [t]).map Value.string)
      rw [List.length_append, List.map_append]
      exact r1
    · exact other (((h.ks j a ha).alloc o).kept r2 (h.kd j i a l hne ha hl)) (by decide)
  · rcases Lev.get_set ha with ⟨rfl, rfl⟩ | ⟨hne, ha⟩
    · exact other (((h.fs j l hl).alloc o).kept r2 (own_apart ((h.fs j l hl).alloc o) ((h.ks j l hl).alloc o) (by decide))) (by decide)
    · exact other (((h.fs j a ha).alloc o).kept r2 (own_apart ((h.fs j a ha).alloc o) ((h.ks i l hl).alloc o) (by decide))) (by decide)
  · rcases Lev.get_set ha with ⟨rfl, rfl⟩ | ⟨hne, ha2⟩ <;> rcases Lev.get_set hb with ⟨rfl, rfl⟩ | ⟨hne2, hb2⟩
    · exact absurd rfl hjk
    · show v'.ownBlock = none ∨ v'.ownBlock ≠ b.kv.ownBlock
      cases hv : v'.ownBlock with
      | none => exact .inl rfl
      | some x =>
        refine .inr fun e => ?_
        rcases r3 x hv with r | r
        · rcases h.kd j k l b hjk hl hb2 with q | q
          · rw [q] at r
            cases r
          · exact q (r.trans e)
        · have := own_hi (h.ks k b hb2) e.symm
          omega
    · show a.kv.ownBlock = none ∨ a.kv.ownBlock ≠ v'.ownBlock
      cases hv : a.kv.ownBlock with
      | none => exact .inl rfl
      | some x =>
        refine .inr fun e => ?_
        rcases r3 x e.symm with r | r
        · rcases h.kd j k a l hjk ha2 hl with q | q
          · rw [q] at hv
            cases hv
          · exact q (hv.trans r.symm)
        · have := own_hi (h.ks j a ha2) hv
          omega
    · exact h.kd j k a b hjk ha2 hb2
  · rcases Lev.get_set ha with ⟨rfl, rfl⟩ | ⟨hne, ha2⟩ <;> rcases Lev.get_set hb with ⟨rfl, rfl⟩ | ⟨hne2, hb2⟩
    · exact absurd rfl hjk
    · exact h.fd j k l b hjk hl hb2
    · exact h.fd j k a l hjk ha2 hl
    · exact h.fd j k a b hjk ha2 hb2
  · exact (((ButS.refl _ w).alloc o).grown r2 (fun b e => .inl (h.ks i l hl |>.lt b e).1)).set (.inl hgl) _ _
theorem LevsAt.pushF {lo : Nat} {w w1 : World} {g : Nat} {ls : List Lev} (h : LevsAt lo w g ls) {i : Nat} {l : Lev} (hl : ls[i]? = some l) {o : Obj} {v' : Value} {t : Int}
    (r1 : w1.ownsRow lo 3 1 v' (l.fs.length + 1) (l.fs.map intV ++ [intV t])) (r2 : (w.alloc o).grownBy w1 l.fv.ownBlock) (r3 : ∀ b, v'.ownBlock = some b → l.fv.ownBlock = some b ∨ b = (w.alloc o).heap.size) :
    w1.cell? ⟨g, i * 2 + 1, none⟩ = some l.fv ∧ w1.frozen? ⟨g, i * 2 + 1, none⟩ = false ∧ LevsAt lo (w1.setCell ⟨g, i * 2 + 1, none⟩ v') g (ls.set i { l with fv := v', fs := l.fs ++ [t] }) ∧ ButS (fun b => lo ≤ b) w (w1.setCell ⟨g, i * 2 + 1, none⟩ v') := by
  have hrow1 := (h.row.alloc o).kept r2 (own_apart (h.row.alloc o) ((h.fs i l hl).alloc o) (by decide))
  obtain ⟨hs1, hs2⟩ := hrow1.stored (i * 2 + 1) v'
  have hgl : lo ≤ g := (h.row.lt g rfl).1
  have alc : (w.alloc o).heap.size = w.heap.size + 1 := by simp
  have hcell : w1.cell? ⟨g, i * 2 + 1, none⟩ = some l.fv := by
    have := hrow1.cells (g := g) rfl _ _ (levs_at ls i l hl).2
    rwa [Addr.add_lit, Nat.zero_add] at this
  have other : ∀ {e : TypeId} {v : Value} {n : Nat} {xs : List Value}, w1.ownsRow lo e 1 v n xs → e ≠ 79 → (w1.setCell ⟨g, i * 2 + 1, none⟩ v').ownsRow lo e 1 v n xs := fun hh hne => own_set_other (a := ⟨g, i * 2 + 1, none⟩) hh (own_apart hh hrow1 hne) _
  have e1 := levs_set ls i l { l with fv := v', fs := l.fs ++ [t] } 1 v' hl (by omega) rfl
  refine ⟨hcell, hrow1.frozenAt _, ⟨?_, fun j a ha => ?_, fun j a ha => ?_, fun j k a b hjk ha hb => ?_, fun j k a b hjk ha hb => ?_⟩, ?_⟩
  · rw [← e1, List.length_set]
    exact hs1
  · rcases Lev.get_set ha with ⟨rfl, rfl⟩ | ⟨hne, ha⟩
    · exact other (((h.ks j l hl).alloc o).kept r2 (own_apart ((h.ks j l hl).alloc o) ((h.fs j l hl).alloc o) (by decide))) (by decide)
    · exact other (((h.ks j a ha).alloc o).kept r2 (own_apart ((h.ks j a ha).alloc o) ((h.fs i l hl).alloc o) (by decide))) (by decide)
  · rcases Lev.get_set ha with ⟨rfl, rfl⟩ | ⟨hne, ha⟩
    · refine other ?_ (by decide)
      show w1.ownsRow lo 3 1 v' (l.fs ++ [t]).length ((l.fs ++ [t]).map intV)
      rw [List.length_append, List.map_append]
      exact r1
    · exact other (((h.fs j a ha).alloc o).kept r2 (h.fd j i a l hne ha hl)) (by decide)
  · rcases Lev.get_set ha with ⟨rfl, rfl⟩ | ⟨hne, ha2⟩ <;> rcases Lev.get_set hb with ⟨rfl, rfl⟩ | ⟨hne2, hb2⟩
    · exact absurd rfl hjk
    · exact h.kd j k l b hjk hl hb2
    · exact h.kd j k a l hjk ha2 hl
    · exact h.kd j k a b hjk ha2 hb2
  · rcases Lev.get_set ha with ⟨rfl, rfl⟩ | ⟨hne, ha2⟩ <;> rcases Lev.get_set hb with ⟨rfl, rfl⟩ | ⟨hne2, hb2⟩
    · exact absurd rfl hjk
    · show v'.ownBlock = none ∨ v'.ownBlock ≠ b.fv.ownBlock
      cases hv : v'.ownBlock with
      | none => exact .inl rfl
      | some x =>
        refine .inr fun e => ?_
        rcases r3 x hv with r | r
        · rcases h.fd j k l b hjk hl hb2 with q | q
          · rw [q] at r
            cases r
          · exact q (r.trans e)
        · have := own_hi (h.fs k b hb2) e.symm
          omega
    · show a.fv.ownBlock = none ∨ a.fv.ownBlock ≠ v'.ownBlock
      cases hv : a.fv.ownBlock with
      | none => exact .inl rfl
      | some x =>
        refine .inr fun e => ?_
        rcases r3 x e.symm with r | r
        · rcases h.fd j k a l hjk ha2 hl with q | q
          · rw [q] at hv
            cases hv
          · exact q (hv.trans r.symm)
        · have := own_hi (h.fs j a ha2) hv
          omega
    · exact h.fd j k a b hjk ha2 hb2
  · exact (((ButS.refl _ w).alloc o).grown r2 (fun b e => .inl (h.fs i l hl |>.lt b e).1)).set (.inl hgl) _ _
end Go.Proofs.YthjpfplebbnbpaaGreat
