/- The levels of a trie in memory, while they are built: each level's two rows are the call's own, and share no block. The walks of the trie's width and of Build. What the levels hold while a trie is built: a plain law. -/
import Derived.Test.YtpgbenijjodoeaaGreatG8
namespace Go.Proofs.YtpgbenijjodoeaaGreat
open Go.ChangeShapes Go.WideShapes Go.ChangeAt Go.RowKit
/-- A level as it lies: its two slices, and what they hold. -/
structure Lev where
  kv : Value
  fv : Value
  ks : List ByteArray
  fs : List Int
def levV (l : Lev) : List Value := [l.kv, l.fv]
structure LevsAt (lo : Nat) (w : World) (g : Nat) (ls : List Lev) : Prop where
  row : w.ownsRow lo 187 2 (.slice (some ⟨g, 0, none⟩) ls.length ls.length) ls.length (ls.flatMap levV)
  ks : ∀ (i : Nat) (l : Lev), ls[i]? = some l → w.ownsRow lo 9 1 l.kv l.ks.length (l.ks.map Value.string)
  fs : ∀ (i : Nat) (l : Lev), ls[i]? = some l → w.ownsRow lo 3 1 l.fv l.fs.length (l.fs.map intV)
  kd : ∀ (i j : Nat) (a b : Lev), i ≠ j → ls[i]? = some a → ls[j]? = some b → a.kv.ownBlock = none ∨ a.kv.ownBlock ≠ b.kv.ownBlock
  fd : ∀ (i j : Nat) (a b : Lev), i ≠ j → ls[i]? = some a → ls[j]? = some b → a.fv.ownBlock = none ∨ a.fv.ownBlock ≠ b.fv.ownBlock
theorem levs_set (ls : List Lev) (i : Nat) (l l' : Lev) (j : Nat) (v : Value) (hl : ls[i]? = some l) (hj : j < 2) (hv : levV l' = (levV l).set j v) : (ls.flatMap levV).set (i * 2 + j) v = (ls.set i l').flatMap levV := by
  induction ls generalizing i with
  | nil => cases hl
  | cons a ls ih =>
    cases i with
    | zero =>
      rw [List.getElem?_cons_zero] at hl
      cases hl
      rw [List.set_cons_zero, List.flatMap_cons, List.flatMap_cons, Nat.zero_mul, Nat.zero_add, List.set_append_left _ _ (by simp [levV]; omega), hv]
    | succ i =>
      rw [List.getElem?_cons_succ] at hl
      rw [List.set_cons_succ, List.flatMap_cons, List.flatMap_cons, List.set_append_right _ _ (by simp [levV]; omega), ← ih i hl]
      congr 1
      simp only [levV, List.length_cons, List.length_nil]
      rw [show (i + 1) * 2 + j - (0 + 1 + 1) = i * 2 + j by omega]
theorem levs_at (ls : List Lev) (i : Nat) (l : Lev) (hl : ls[i]? = some l) : (ls.flatMap levV)[i * 2]? = some l.kv ∧ (ls.flatMap levV)[i * 2 + 1]? = some l.fv := by
  induction ls generalizing i with
  | nil => cases hl
  | cons a ls ih =>
    cases i with
    | zero =>
      rw [List.getElem?_cons_zero] at hl
      cases hl
      simp [levV]
    | succ i =>
      rw [List.getElem?_cons_succ] at hl
      obtain ⟨h1, h2⟩ := ih i hl
      rw [List.flatMap_cons, List.getElem?_append_right (by simp [levV]; omega), List.getElem?_append_right (by simp [levV]; omega)]
      simp only [levV, List.length_cons, List.length_nil]
      rw [show (i + 1) * 2 - (0 + 1 + 1) = i * 2 by omega, show (i + 1) * 2 + 1 - (0 + 1 + 1) = i * 2 + 1 by omega]
      exact ⟨h1, h2⟩
theorem LevsAt.cell {lo : Nat} {w : World} {g : Nat} {ls : List Lev} (h : LevsAt lo w g ls) {i : Nat} {l : Lev} (hl : ls[i]? = some l) : w.cell? ⟨g, i * 2, none⟩ = some l.kv ∧ w.cell? ⟨g, i * 2 + 1, none⟩ = some l.fv := by
  obtain ⟨h1, h2⟩ := levs_at ls i l hl
  have c1 := h.row.cells (g := g) rfl _ _ h1
  have c2 := h.row.cells (g := g) rfl _ _ h2
  rw [Addr.add_lit, Nat.zero_add] at c1 c2
  exact ⟨c1, c2⟩
theorem LevsAt.ext {lo : Nat} {w w' : World} {g : Nat} {ls : List Lev} (h : LevsAt lo w g ls) (e : Ext w w') : LevsAt lo w' g ls := ⟨up_ext h.row e, fun i l hl => up_ext (h.ks i l hl) e, fun i l hl => up_ext (h.fs i l hl) e, h.kd, h.fd⟩
theorem own_hi {w : World} {base n size : Nat} {e : TypeId} {v : Value} {xs : List Value} (h : w.ownsRow base e size v n xs) {b : Nat} (hb : v.ownBlock = some b) : b < w.heap.size := (h.lt b hb).2
theorem Lev.get_set {ls : List Lev} {i j : Nat} {l' a : Lev} (h : (ls.set i l')[j]? = some a) : j = i ∧ a = l' ∨ j ≠ i ∧ ls[j]? = some a := by
  by_cases e : i = j
  · subst e
    have := (List.getElem?_eq_some_iff.1 h).1
    rw [List.length_set] at this
    rw [List.getElem?_set_self this] at h
    cases h
    exact .inl ⟨rfl, rfl⟩
  · rw [List.getElem?_set_ne e] at h
    exact .inr ⟨fun e2 => e e2.symm, h⟩
theorem LevsAt.pushK {lo : Nat} {w w1 : World} {g : Nat} {ls : List Lev} (h : LevsAt lo w g ls) {i : Nat} {l : Lev} (hl : ls[i]? = some l) {o : Obj} {v' : Value} {t : ByteArray}
    (r1 : w1.ownsRow lo 9 1 v' (l.ks.length + 1) (l.ks.map Value.string ++ [Value.string t])) (r2 : (w.alloc o).grownBy w1 l.kv.ownBlock) (r3 : ∀ b, v'.ownBlock = some b → l.kv.ownBlock = some b ∨ b = (w.alloc o).heap.size) :
    w1.cell? ⟨g, i * 2 + 0, none⟩ = some l.kv ∧ w1.frozen? ⟨g, i * 2 + 0, none⟩ = false ∧ LevsAt lo (w1.setCell ⟨g, i * 2 + 0, none⟩ v') g (ls.set i { l with kv := v', ks := l.ks ++ [t] }) ∧ ButS (fun b => lo ≤ b) w (w1.setCell ⟨g, i * 2 + 0, none⟩ v') := by
  have hrow1 := (h.row.alloc o).kept r2 (own_apart (h.row.alloc o) ((h.ks i l hl).alloc o) (by decide))
  obtain ⟨hs1, hs2⟩ := hrow1.stored (i * 2 + 0) v'
  have hgl : lo ≤ g := (h.row.lt g rfl).1
  have alc : (w.alloc o).heap.size = w.heap.size + 1 := by simp
  have hcell : w1.cell? ⟨g, i * 2 + 0, none⟩ = some l.kv := by
    have := hrow1.cells (g := g) rfl _ _ (levs_at ls i l hl).1
    rwa [Addr.add_lit, Nat.zero_add] at this
  have other : ∀ {e : TypeId} {v : Value} {n : Nat} {xs : List Value}, w1.ownsRow lo e 1 v n xs → e ≠ 187 → (w1.setCell ⟨g, i * 2 + 0, none⟩ v').ownsRow lo e 1 v n xs := fun hh hne => own_set_other (a := ⟨g, i * 2 + 0, none⟩) hh (own_apart hh hrow1 hne) _
  have e1 := levs_set ls i l { l with kv := v', ks := l.ks ++ [t] } 0 v' hl (by omega) rfl
  refine ⟨hcell, hrow1.frozenAt _, ⟨?_, fun j a ha => ?_, fun j a ha => ?_, fun j k a b hjk ha hb => ?_, fun j k a b hjk ha hb => ?_⟩, ?_⟩
  · rw [← e1, List.length_set]
    exact hs1
  · rcases Lev.get_set ha with ⟨rfl, rfl⟩ | ⟨hne, ha⟩
    · refine other ?_ (by decide)
      show w1.ownsRow lo 9 1 v' (l.ks ++ [t]).length ((l.ks ++ [t]).map Value.string)
      rw [List.length_append, List.map_append]
      exact r1
    · exact other (((h.ks j a ha).alloc o).kept r2 (h.kd j i a l hne ha hl)) (by decide)
  · rcases Lev.get_set ha with ⟨rfl, rfl⟩ | ⟨hne, ha⟩
    · exact other (((h.fs j l hl).alloc o).kept r2 (own_apart ((h.fs j l hl).alloc o) ((h.ks j l hl).alloc o) (by decide))) (by decide)
    · exact other (((h.fs j a ha).alloc o).kept r2 (own_apart ((h.fs j a ha).alloc o) ((h.ks i l hl).alloc o) (by decide))) (by decide)
  · rcases Lev.get_set ha with ⟨rfl, rfl⟩ | ⟨hne, ha2⟩ <;> rcases Lev.get_set hb with ⟨rfl, rfl⟩ | ⟨hne2, hb2⟩
    · exact absurd rfl hjk
    · show v'.ownBlock = none ∨ v'.ownBlock ≠ b.kv.ownBlock
      cases hv : v'.ownBlock with
      | none => exact .inl rfl
      | some x =>
        refine .inr fun e => ?_
        rcases r3 x hv with r | r
        · rcases h.kd j k l b hjk hl hb2 with q | q
          · rw [q] at r
            cases r
          · exact q (r.trans e)
        · have := own_hi (h.ks k b hb2) e.symm
          omega
    · show a.kv.ownBlock = none ∨ a.kv.ownBlock ≠ v'.ownBlock
      cases hv : a.kv.ownBlock with
      | none => exact .inl rfl
      | some x =>
        refine .inr fun e => ?_
        rcases r3 x e.symm with r | r
        · rcases h.kd j k a l hjk ha2 hl with q | q
          · rw [q] at hv
            cases hv
          · exact q (hv.trans r.symm)
        · have := own_hi (h.ks j a ha2) hv
          omega
    · exact h.kd j k a b hjk ha2 hb2
  · rcases Lev.get_set ha with ⟨rfl, rfl⟩ | ⟨hne, ha2⟩ <;> rcases Lev.get_set hb with ⟨rfl, rfl⟩ | ⟨hne2, hb2⟩
    · exact absurd rfl hjk
    · exact h.fd j k l b hjk hl hb2
    · exact h.fd j k a l hjk ha2 hl
    · exact h.fd j k a b hjk ha2 hb2
  · exact (((ButS.refl _ w).alloc o).grown r2 (fun b e => .inl (h.ks i l hl |>.lt b e).1)).set (.inl hgl) _ _
theorem LevsAt.pushF {lo : Nat} {w w1 : World} {g : Nat} {ls : List Lev} (h : LevsAt lo w g ls) {i : Nat} {l : Lev} (hl : ls[i]? = some l) {o : Obj} {v' : Value} {t : Int}
    (r1 : w1.ownsRow lo 3 1 v' (l.fs.length + 1) (l.fs.map intV ++ [intV t])) (r2 : (w.alloc o).grownBy w1 l.fv.ownBlock) (r3 : ∀ b, v'.ownBlock = some b → l.fv.ownBlock = some b ∨ b = (w.alloc o).heap.size) :
    w1.cell? ⟨g, i * 2 + 1, none⟩ = some l.fv ∧ w1.frozen? ⟨g, i * 2 + 1, none⟩ = false ∧ LevsAt lo (w1.setCell ⟨g, i * 2 + 1, none⟩ v') g (ls.set i { l with fv := v', fs := l.fs ++ [t] }) ∧ ButS (fun b => lo ≤ b) w (w1.setCell ⟨g, i * 2 + 1, none⟩ v') := by
  have hrow1 := (h.row.alloc o).kept r2 (own_apart (h.row.alloc o) ((h.fs i l hl).alloc o) (by decide))
  obtain ⟨hs1, hs2⟩ := hrow1.stored (i * 2 + 1) v'
  have hgl : lo ≤ g := (h.row.lt g rfl).1
  have alc : (w.alloc o).heap.size = w.heap.size + 1 := by simp
  have hcell : w1.cell? ⟨g, i * 2 + 1, none⟩ = some l.fv := by
    have := hrow1.cells (g := g) rfl _ _ (levs_at ls i l hl).2
    rwa [Addr.add_lit, Nat.zero_add] at this
  have other : ∀ {e : TypeId} {v : Value} {n : Nat} {xs : List Value}, w1.ownsRow lo e 1 v n xs → e ≠ 187 → (w1.setCell ⟨g, i * 2 + 1, none⟩ v').ownsRow lo e 1 v n xs := fun hh hne => own_set_other (a := ⟨g, i * 2 + 1, none⟩) hh (own_apart hh hrow1 hne) _
  have e1 := levs_set ls i l { l with fv := v', fs := l.fs ++ [t] } 1 v' hl (by omega) rfl
  refine ⟨hcell, hrow1.frozenAt _, ⟨?_, fun j a ha => ?_, fun j a ha => ?_, fun j k a b hjk ha hb => ?_, fun j k a b hjk ha hb => ?_⟩, ?_⟩
  · rw [← e1, List.length_set]
    exact hs1
  · rcases Lev.get_set ha with ⟨rfl, rfl⟩ | ⟨hne, ha⟩
    · exact other (((h.ks j l hl).alloc o).kept r2 (own_apart ((h.ks j l hl).alloc o) ((h.fs j l hl).alloc o) (by decide))) (by decide)
    · exact other (((h.ks j a ha).alloc o).kept r2 (own_apart ((h.ks j a ha).alloc o) ((h.fs i l hl).alloc o) (by decide))) (by decide)
  · rcases Lev.get_set ha with ⟨rfl, rfl⟩ | ⟨hne, ha⟩
    · refine other ?_ (by decide)
      show w1.ownsRow lo 3 1 v' (l.fs ++ [t]).length ((l.fs ++ [t]).map intV)
      rw [List.length_append, List.map_append]
      exact r1
    · exact other (((h.fs j a ha).alloc o).kept r2 (h.fd j i a l hne ha hl)) (by decide)
  · rcases Lev.get_set ha with ⟨rfl, rfl⟩ | ⟨hne, ha2⟩ <;> rcases Lev.get_set hb with ⟨rfl, rfl⟩ | ⟨hne2, hb2⟩
    · exact absurd rfl hjk
    · exact h.kd j k l b hjk hl hb2
    · exact h.kd j k a l hjk ha2 hl
    · exact h.kd j k a b hjk ha2 hb2
  · rcases Lev.get_set ha with ⟨rfl, rfl⟩ | ⟨hne, ha2⟩ <;> rcases Lev.get_set hb with ⟨rfl, rfl⟩ | ⟨hne2, hb2⟩
    · exact absurd rfl hjk
    · show v'.ownBlock = none ∨ v'.ownBlock ≠ b.fv.ownBlock
      cases hv : v'.ownBlock with
      | none => exact .inl rfl
      | some x =>
        refine .inr fun e => ?_
        rcases r3 x hv with r | r
        · rcases h.fd j k l b hjk hl hb2 with q | q
          · rw [q] at r
            cases r
          · exact q (r.trans e)
        · have := own_hi (h.fs k b hb2) e.symm
          omega
    · show a.fv.ownBlock = none ∨ a.fv.ownBlock ≠ v'.ownBlock
      cases hv : a.fv.ownBlock with
      | none => exact .inl rfl
      | some x =>
        refine .inr fun e => ?_
        rcases r3 x e.symm with r | r
        · rcases h.fd j k a l hjk ha2 hl with q | q
          · rw [q] at hv
            cases hv
          · exact q (hv.trans r.symm)
        · have := own_hi (h.fs j a ha2) hv
          omega
    · exact h.fd j k a b hjk ha2 hb2
  · exact (((ButS.refl _ w).alloc o).grown r2 (fun b e => .inl (h.fs i l hl |>.lt b e).1)).set (.inl hgl) _ _
end Go.Proofs.YtpgbenijjodoeaaGreat
namespace Go.Proofs.YtpgbenijjodoeaaGreat
open Go.ChangeShapes Go.WideShapes Go.ChangeAt Go.RowKit
/-- A trie that is being built: since w0 nothing old was touched; its levels are ls. -/
structure TrSt (w0 : World) (pt g N : Nat) (ls : List Lev) (w : World) : Prop where
  old : Ext w0 w
  lev : LevsAt w0.heap.size w g ls
  top : w.heap[pt]? = some (.cells #[.slice (some ⟨g, 0, none⟩) ls.length ls.length, .int .i64 (N : Int), .bool true] 184 (0, 0))
  pt : w0.heap.size ≤ pt
theorem TrSt.cells {w0 : World} {pt g N : Nat} {ls : List Lev} {w : World} (h : TrSt w0 pt g N ls w) : w.cell? ⟨pt, 0, none⟩ = some (.slice (some ⟨g, 0, none⟩) ls.length ls.length) ∧ w.cell? ⟨pt, 1, none⟩ = some (.int .i64 (N : Int)) ∧ w.cell? ⟨pt, 2, none⟩ = some (.bool true) := by
  simp [World.cell?, h.top]
theorem TrSt.ext {w0 : World} {pt g N : Nat} {ls : List Lev} {w w' : World} (h : TrSt w0 pt g N ls w) (e : Ext w w') : TrSt w0 pt g N ls w' := ⟨ext_trans h.old e, h.lev.ext e, (e.block pt (Array.getElem?_eq_some_iff.1 h.top).1).trans h.top, h.pt⟩
theorem c_width (pt g d i : Nat) (ways : Int) (res : Int) (w : World) (h0 : w.cell? ⟨pt, 0, none⟩ = some (.slice (some ⟨g, 0, none⟩) d d)) (h1 : i < d → ∃ a n c, w.cell? ⟨g, i * 2, none⟩ = some (.slice a n c) ∧ res = (n : Int)) (h2 : d ≤ i → res = ways) :
    Calls Tryz.prog 116 #[.pointer (some ⟨pt, 0, none⟩), .int .i64 (i : Int), .int .i64 ways] w fun e w' => e = .returned (.int .i64 res) ∧ w' = w := by
  by_cases hlt : i < d
  · have l1 : (i : Int) < (d : Int) := by omega
    obtain ⟨a, n, c, hc, rfl⟩ := h1 hlt
    clear h1 h2
    go_enter Tryz.func116, Tryz.ntmps116
    go_wp2
    go_returns
    exact ⟨rfl, rfl⟩
  · have l1 : ¬ (i : Int) < (d : Int) := by omega
    obtain rfl := h2 (by omega)
    clear h1 h2
    go_enter Tryz.func116, Tryz.ntmps116
    go_wp2
    go_returns
    exact ⟨rfl, rfl⟩
theorem TrSt.width {w0 : World} {pt g N : Nat} {ls : List Lev} {w : World} (h : TrSt w0 pt g N ls w) {i : Nat} {ways : Int} {res : Int} (h1 : ∀ l, ls[i]? = some l → res = (l.ks.length : Int)) (h2 : ls.length ≤ i → res = ways) :
    Calls Tryz.prog 116 #[.pointer (some ⟨pt, 0, none⟩), .int .i64 (i : Int), .int .i64 ways] w fun e w' => e = .returned (.int .i64 res) ∧ w' = w := by
  refine c_width pt g ls.length i ways res w h.cells.1 (fun hlt => ?_) h2
  have hl : ls[i]? = some ls[i] := List.getElem?_eq_getElem hlt
  obtain ⟨a, c, e, _⟩ := own_form (h.lev.ks i _ hl)
  refine ⟨a, _, c, ?_, h1 _ hl⟩
  rw [← e]
  exact (h.lev.cell hl).1
/-- One key more in level i. -/
theorem TrSt.pushK {w0 : World} {pt g N : Nat} {ls : List Lev} {w w1 : World} (h : TrSt w0 pt g N ls w) {i : Nat} {l : Lev} (hl : ls[i]? = some l) {o : Obj} {v' : Value} {t : ByteArray}
    (r1 : w1.ownsRow w0.heap.size 9 1 v' (l.ks.length + 1) (l.ks.map Value.string ++ [Value.string t])) (r2 : (w.alloc o).grownBy w1 l.kv.ownBlock) (r3 : ∀ b, v'.ownBlock = some b → l.kv.ownBlock = some b ∨ b = (w.alloc o).heap.size) :
    w1.cell? ⟨g, i * 2, none⟩ = some l.kv ∧ w1.frozen? ⟨g, i * 2, none⟩ = false ∧ w1.cell? ⟨pt, 0, none⟩ = some (.slice (some ⟨g, 0, none⟩) ls.length ls.length) ∧ TrSt w0 pt g N (ls.set i { l with kv := v', ks := l.ks ++ [t] }) (w1.setCell ⟨g, i * 2, none⟩ v') := by
  obtain ⟨p1, p2, p3, p4⟩ := h.lev.pushK hl r1 r2 r3
  rw [Nat.add_zero] at p1 p2 p3 p4
  have hpt : w1.heap[pt]? = w.heap[pt]? := by
    have hlt := (Array.getElem?_eq_some_iff.1 h.top).1
    refine (r2.block pt (by simp; omega) (fun e => ?_)).trans (heap_alloc_old w o hlt)
    rcases (h.lev.ks i l hl).2 with ⟨e1, _⟩ | ⟨g', c', cur, e1, _, hg, _⟩
    · rw [e1] at e; cases e
    · rw [e1] at e
      cases e
      rw [h.top] at hg
      cases hg
  have hgp : g ≠ pt := by
    rintro rfl
    rcases h.lev.row.2 with ⟨e1, _⟩ | ⟨g', c', cur, e1, _, hg, _⟩
    · cases e1
    · cases e1
      rw [h.top] at hg
      cases hg
  refine ⟨p1, p2, ?_, ext_of_but h.old p4 (fun b hb => by omega), p3, ?_, h.pt⟩
  · rw [World.cell?_of_block hpt]
    exact h.cells.1
  · rw [List.length_set, heap_setCell_other _ _ _ _ (fun e => hgp e.symm), hpt]
    exact h.top
theorem TrSt.pushF {w0 : World} {pt g N : Nat} {ls : List Lev} {w w1 : World} (h : TrSt w0 pt g N ls w) {i : Nat} {l : Lev} (hl : ls[i]? = some l) {o : Obj} {v' : Value} {t : Int}
    (r1 : w1.ownsRow w0.heap.size 3 1 v' (l.fs.length + 1) (l.fs.map intV ++ [intV t])) (r2 : (w.alloc o).grownBy w1 l.fv.ownBlock) (r3 : ∀ b, v'.ownBlock = some b → l.fv.ownBlock = some b ∨ b = (w.alloc o).heap.size) :
    w1.cell? ⟨g, i * 2 + 1, none⟩ = some l.fv ∧ w1.frozen? ⟨g, i * 2 + 1, none⟩ = false ∧ w1.cell? ⟨pt, 0, none⟩ = some (.slice (some ⟨g, 0, none⟩) ls.length ls.length) ∧ TrSt w0 pt g N (ls.set i { l with fv := v', fs := l.fs ++ [t] }) (w1.setCell ⟨g, i * 2 + 1, none⟩ v') := by
  obtain ⟨p1, p2, p3, p4⟩ := h.lev.pushF hl r1 r2 r3
  have hpt : w1.heap[pt]? = w.heap[pt]? := by
    have hlt := (Array.getElem?_eq_some_iff.1 h.top).1
    refine (r2.block pt (by simp; omega) (fun e => ?_)).trans (heap_alloc_old w o hlt)
    rcases (h.lev.fs i l hl).2 with ⟨e1, _⟩ | ⟨g', c', cur, e1, _, hg, _⟩
    · rw [e1] at e; cases e
    · rw [e1] at e
      cases e
      rw [h.top] at hg
      cases hg
  have hgp : g ≠ pt := by
    rintro rfl
    rcases h.lev.row.2 with ⟨e1, _⟩ | ⟨g', c', cur, e1, _, hg, _⟩
    · cases e1
    · cases e1
      rw [h.top] at hg
      cases hg
  refine ⟨p1, p2, ?_, ext_of_but h.old p4 (fun b hb => by omega), p3, ?_, h.pt⟩
  · rw [World.cell?_of_block hpt]
    exact h.cells.1
  · rw [List.length_set, heap_setCell_other _ _ _ _ (fun e => hgp e.symm), hpt]
    exact h.top
end Go.Proofs.YtpgbenijjodoeaaGreat
namespace Go.Proofs.YtpgbenijjodoeaaGreat
/-- May an order be one of columns? -/
def orderOk (ar : Nat) (os : List Int) : Prop := ∀ (i : Nat) (c : Int), os[i]? = some c → 0 ≤ c ∧ c < (ar : Int) ∧ ¬ c ∈ os.take i
theorem nodup_len : ∀ (n : Nat) (l : List Nat), l.Nodup → (∀ x ∈ l, x < n) → l.length ≤ n
  | 0, [], _, _ => Nat.le_refl _
  | 0, x :: l, _, h => absurd (h x (List.mem_cons_self ..)) (Nat.not_lt_zero _)
  | n + 1, l, hd, h => by
    have h2 := nodup_len n (l.erase n) (hd.erase n) (fun x hx => by
      have := (List.Nodup.mem_erase_iff hd).1 hx
      have h3 := h x this.2
      have := this.1
      omega)
    rw [List.length_erase] at h2
    split at h2 <;> omega
theorem orderOk.len {ar : Nat} {os : List Int} (h : orderOk ar os) : os.length ≤ ar := by
  have hn : (os.map Int.toNat).Nodup := by
    refine List.pairwise_iff_getElem.2 fun i j hi hj hij => ?_
    rw [List.getElem_map, List.getElem_map]
    rw [List.length_map] at hi hj
    intro e
    have h1 := h i os[i] (List.getElem?_eq_getElem hi)
    have h2 := h j os[j] (List.getElem?_eq_getElem hj)
    apply h2.2.2
    have e2 : os[j] = os[i] := by omega
    rw [e2]
    exact List.mem_take_iff_getElem.2 ⟨i, by omega, rfl⟩
  have := nodup_len ar _ hn (fun x hx => by
    obtain ⟨c, hc, rfl⟩ := List.mem_map.1 hx
    obtain ⟨i, hi⟩ := List.mem_iff_getElem?.1 hc
    have := h i c hi
    omega)
  rwa [List.length_map] at this
def natV (n : Nat) : Int := (n : Int)
def LevOk (ways : List (List ByteArray)) (d : Nat) (cnt : Nat → Nat) (ls : List Lev) : Prop := ls.length = d ∧ ∀ (i : Nat) (l : Lev), ls[i]? = some l → l.ks = keysM ways i (cnt i) ∧ l.fs = (fromM ways i (cnt i)).map natV
def cntI (i n : Nat) (j : Nat) : Nat := if j < i then n + 1 else n
theorem LevOk.start {ways : List (List ByteArray)} {d n : Nat} {ls : List Lev} (h : LevOk ways d (fun _ => n) ls) : LevOk ways d (cntI 0 n) ls := ⟨h.1, fun i l hl => by unfold cntI; rw [if_neg (Nat.not_lt_zero _)]; exact h.2 i l hl⟩
theorem LevOk.stop {ways : List (List ByteArray)} {d n : Nat} {ls : List Lev} (h : LevOk ways d (cntI d n) ls) : LevOk ways d (fun _ => n + 1) ls := ⟨h.1, fun i l hl => by
  have := h.2 i l hl
  unfold cntI at this
  rwa [if_pos (by have := (List.getElem?_eq_some_iff.1 hl).1; have := h.1; omega)] at this⟩
theorem LevOk.skip {ways : List (List ByteArray)} {d n i : Nat} {ls : List Lev} (h : LevOk ways d (cntI i n) ls) (hf : fresh ways i n = false) : LevOk ways d (cntI (i + 1) n) ls := ⟨h.1, fun j l hl => by
  obtain ⟨h1, h2⟩ := h.2 j l hl
  unfold cntI at *
  by_cases hj : j = i
  · subst hj
    rw [if_neg (Nat.lt_irrefl _)] at h1 h2
    rw [if_pos (Nat.lt_succ_self _), keysM_succ, fromM_succ, if_neg (by rw [hf]; simp), if_neg (by rw [hf]; simp)]
    exact ⟨h1, h2⟩
  · by_cases h3 : j < i
    · rw [if_pos h3] at h1 h2
      rw [if_pos (by omega)]
      exact ⟨h1, h2⟩
    · rw [if_neg h3] at h1 h2
      rw [if_neg (by omega)]
      exact ⟨h1, h2⟩⟩
theorem LevOk.at {ways : List (List ByteArray)} {d n i : Nat} {ls : List Lev} (h : LevOk ways d (cntI i n) ls) (hi : i < d) : ∃ l, ls[i]? = some l ∧ l.ks = keysM ways i n ∧ l.fs = (fromM ways i n).map natV := by
  obtain ⟨l, hl⟩ : ∃ l, ls[i]? = some l := ⟨_, List.getElem?_eq_getElem (by rw [h.1]; exact hi)⟩
  have := h.2 i l hl
  unfold cntI at this
  rw [if_neg (Nat.lt_irrefl _)] at this
  exact ⟨l, hl, this⟩
theorem LevOk.push {ways : List (List ByteArray)} {d n i : Nat} {ls : List Lev} {l : Lev} {kv fv : Value} (h : LevOk ways d (cntI i n) ls) (hl : ls[i]? = some l) (hf : fresh ways i n = true) : LevOk ways d (cntI (i + 1) n) (ls.set i { kv := kv, fv := fv, ks := l.ks ++ [keyAt ways i n], fs := l.fs ++ [natV (wid ways (i + 1) n)] }) := ⟨by rw [List.length_set]; exact h.1, fun j a ha => by
  rcases Lev.get_set ha with ⟨rfl, rfl⟩ | ⟨hne, ha2⟩
  · obtain ⟨h1, h2⟩ := h.2 j l hl
    unfold cntI at *
    rw [if_neg (Nat.lt_irrefl _)] at h1 h2
    rw [if_pos (Nat.lt_succ_self _), keysM_succ, fromM_succ, if_pos hf, if_pos hf, List.map_append]
    exact ⟨by rw [h1], by rw [h2]; rfl⟩
  · obtain ⟨h1, h2⟩ := h.2 j a ha2
    unfold cntI at *
    by_cases h3 : j < i
    · rw [if_pos h3] at h1 h2
      rw [if_pos (by omega)]
      exact ⟨h1, h2⟩
    · rw [if_neg h3] at h1 h2
      rw [if_neg (by omega)]
      exact ⟨h1, h2⟩⟩
/-- How wide the next level is by now. -/
theorem LevOk.next {ways : List (List ByteArray)} {d n i : Nat} {ls : List Lev} (h : LevOk ways d (cntI i n) ls) (hw : Ways d ways) (hi : i < d) (hn : n ≤ ways.length) : (∀ l, ls[i + 1]? = some l → natV (wid ways (i + 1) n) = (l.ks.length : Int)) ∧ (ls.length ≤ i + 1 → natV (wid ways (i + 1) n) = (n : Int)) := by
  refine ⟨fun l hl => ?_, fun hl => ?_⟩
  · obtain ⟨h1, _⟩ := h.2 _ l hl
    unfold cntI at h1
    rw [if_neg (by omega)] at h1
    rw [h1, keysM_len]
    rfl
  · rw [h.1] at hl
    rw [hw.wid_d (by omega) hn]
    rfl
/-- Is a way new in its first i constants? -/
def freshT (ways : List (List ByteArray)) (i m : Nat) : Bool := decide (m = 0) || !decide ((wayAt ways (m - 1)).take i = (wayAt ways m).take i)
theorem freshT_zero (ways : List (List ByteArray)) (m : Nat) : freshT ways 0 m = decide (m = 0) := by simp [freshT]
theorem freshT_step {ways : List (List ByteArray)} {i m : Nat} {x y : ByteArray} (hx : (wayAt ways (m - 1))[i]? = some x) (hy : (wayAt ways m)[i]? = some y) (hm : m ≠ 0) (hf : freshT ways i m = false) : fresh ways i m = !decide (x = y) := by
  unfold freshT at hf
  simp only [Bool.or_eq_false_iff, decide_eq_false_iff_not, Bool.not_eq_false', decide_eq_true_eq] at hf
  unfold fresh
  rw [take_at hx, take_at hy, hf.2]
  simp [hm]
theorem freshT_on {ways : List (List ByteArray)} {i m : Nat} (h : freshT ways i m = true) : fresh ways i m = true := by
  unfold freshT at h
  unfold fresh
  simp only [Bool.or_eq_true, decide_eq_true_eq, Bool.not_eq_true', decide_eq_false_iff_not] at *
  rcases h with h | h
  · exact .inl h
  · exact .inr fun e => h (take_down e (Nat.le_succ i))
/-- The levels at the end: the first k have their last place. -/
def LevEnd (ways : List (List ByteArray)) (d k : Nat) (ls : List Lev) : Prop := ls.length = d ∧ ∀ (i : Nat) (l : Lev), ls[i]? = some l → l.ks = keysM ways i ways.length ∧ l.fs = (if i < k then fromM ways i ways.length ++ [wid ways (i + 1) ways.length] else fromM ways i ways.length).map natV
theorem LevOk.toEnd {ways : List (List ByteArray)} {d : Nat} {ls : List Lev} (h : LevOk ways d (fun _ => ways.length) ls) : LevEnd ways d 0 ls := ⟨h.1, fun i l hl => by rw [if_neg (Nat.not_lt_zero _)]; exact h.2 i l hl⟩
theorem LevEnd.at {ways : List (List ByteArray)} {d k : Nat} {ls : List Lev} (h : LevEnd ways d k ls) (hk : k < d) : ∃ l, ls[k]? = some l ∧ l.ks = keysM ways k ways.length ∧ l.fs = (fromM ways k ways.length).map natV := by
  obtain ⟨l, hl⟩ : ∃ l, ls[k]? = some l := ⟨_, List.getElem?_eq_getElem (by rw [h.1]; exact hk)⟩
  have := h.2 k l hl
  rw [if_neg (Nat.lt_irrefl _)] at this
  exact ⟨l, hl, this⟩
theorem LevEnd.next {ways : List (List ByteArray)} {d k : Nat} {ls : List Lev} (h : LevEnd ways d k ls) (hw : Ways d ways) : (∀ l, ls[k + 1]? = some l → natV (wid ways (k + 1) ways.length) = (l.ks.length : Int)) ∧ (ls.length ≤ k + 1 → natV (wid ways (k + 1) ways.length) = (ways.length : Int)) := by
  refine ⟨fun l hl => ?_, fun hl => ?_⟩
  · rw [(h.2 _ l hl).1, keysM_len]
    rfl
  · rw [h.1] at hl
    rw [hw.wid_d (by omega) (Nat.le_refl _)]
    rfl
theorem LevEnd.push {ways : List (List ByteArray)} {d k : Nat} {ls : List Lev} {l : Lev} {fv : Value} (h : LevEnd ways d k ls) (hl : ls[k]? = some l) : LevEnd ways d (k + 1) (ls.set k { l with fv := fv, fs := l.fs ++ [natV (wid ways (k + 1) ways.length)] }) := ⟨by rw [List.length_set]; exact h.1, fun j a ha => by
  rcases Lev.get_set ha with ⟨rfl, rfl⟩ | ⟨hne, ha2⟩
  · obtain ⟨h1, h2⟩ := h.2 j l hl
    rw [if_neg (Nat.lt_irrefl _)] at h2
    rw [if_pos (Nat.lt_succ_self _), List.map_append]
    exact ⟨h1, by rw [h2]; rfl⟩
  · obtain ⟨h1, h2⟩ := h.2 j a ha2
    refine ⟨h1, ?_⟩
    rw [h2]
    by_cases h3 : j < k
    · rw [if_pos h3, if_pos (by omega)]
    · rw [if_neg h3, if_neg (by omega)]⟩
end Go.Proofs.YtpgbenijjodoeaaGreat
