/- Rows in memory of their own that are written full and gone on with: memory laws. -/
import Derived.Test.YthjpfplebbnbpaaWaysT
import Derived.Test.YthjpfplebbnbpaaMark
import Derived.Test.YthjpfplebbnbpaaLists
import Derived.Test.YthjpfplebbnbpaaWkd
namespace Go.Proofs.Ythjpfplebbnbpaa
open Go.ChangeShapes Go.WideShapes Go.ChangeAt Go.RowKit
theorem row_val {w : World} {base n : Nat} {te : TypeId} {a : Option Addr} {c : Nat} {ls : List LRow} (h : w.ownsRow base te 1 (.slice a n c) n (ls.map (·.v))) {i : Nat} {l : LRow} (hl : ls[i]? = some l) : ∃ g, a = some ⟨g, 0, none⟩ ∧ w.cell? ⟨g, i, none⟩ = some l.v := by
  have hi := (List.getElem?_eq_some_iff.1 hl).1
  have hn := h.1
  rw [List.length_map, Nat.mul_one] at hn
  rcases h.2 with ⟨h1, h0⟩ | ⟨g, c', cur, hv, _⟩
  · omega
  · cases hv
    have := h.cells (g := g) rfl i l.v (by rw [List.getElem?_map, hl]; rfl)
    rw [Addr.add_lit, Nat.zero_add] at this
    exact ⟨g, rfl, this⟩
theorem row_get {w : World} {base n : Nat} {te : TypeId} {a : Option Addr} {c : Nat} {vs : List Value} (h : w.ownsRow base te 1 (.slice a n c) n vs) {i : Nat} (hi : i < n) : ∃ g v, a = some ⟨g, 0, none⟩ ∧ vs[i]? = some v ∧ w.cell? ⟨g, i, none⟩ = some v := by
  have hn := h.1
  rw [Nat.mul_one] at hn
  obtain ⟨v, hv⟩ : ∃ v, vs[i]? = some v := ⟨_, List.getElem?_eq_getElem (by omega)⟩
  rcases h.2 with ⟨h1, h0⟩ | ⟨g, c', cur, hv', _⟩
  · cases h1
    omega
  · cases hv'
    have := h.cells (g := g) rfl i v hv
    rw [Addr.add_lit, Nat.zero_add] at this
    exact ⟨g, v, rfl, hv, this⟩
/-- A row of the same text. -/
def fullV (n : Nat) (x : ByteArray) : List Value := List.replicate n (.string x)
def partV (i k : Nat) (xs : List Value) : List Value := List.replicate k (.string (markT i)) ++ xs.drop k
theorem partV_set {i k : Nat} {xs : List Value} (h : k < xs.length) : (partV i k xs).set k (.string (markT i)) = partV i (k + 1) xs := by
  obtain ⟨x, hx⟩ : ∃ x, xs[k]? = some x := ⟨_, List.getElem?_eq_getElem h⟩
  unfold partV
  rw [List.set_append_right _ _ (by simp), List.length_replicate, Nat.sub_self, drop_at hx, List.set_cons_zero, List.replicate_succ', List.append_assoc]
  rfl
/-- Rows of a base's own that share no block. -/
structure AOwn (W : World) (base : Nat) (ls : List LRow) : Prop where
  own : ∀ l ∈ ls, W.ownsRow base 9 1 l.v l.n l.xs
  apart : ls.Pairwise fun a b => a.v.ownBlock = none ∨ a.v.ownBlock ≠ b.v.ownBlock
  small : ∀ l ∈ ls, l.n ≤ 1000000
theorem AOwn.ext {W W' : World} {base : Nat} {ls : List LRow} (h : AOwn W base ls) (e : Ext W W') : AOwn W' base ls := ⟨fun l hl => up_ext (h.own l hl) e, h.apart, h.small⟩
theorem AOwn.snoc {W W' : World} {base n : Nat} {ls : List LRow} {v : Value} {xs : List Value} (h : AOwn W base ls) (e : Ext W W') (ho : W'.ownsRow W.heap.size 9 1 v n xs) (hn : n ≤ 1000000) (hb : base ≤ W.heap.size) : AOwn W' base (ls ++ [(⟨v, n, xs⟩ : LRow)]) := by
  refine ⟨fun l hl => ?_, List.pairwise_append.2 ⟨h.apart, by simp, fun a ha b hb2 => ?_⟩, fun l hl => ?_⟩
  · rcases List.mem_append.1 hl with hl | hl
    · exact up_ext (h.own l hl) e
    · rw [List.mem_singleton] at hl
      subst hl
      exact own_base ho hb
  · rw [List.mem_singleton] at hb2
    subst hb2
    cases hx : a.v.ownBlock with
    | none => exact .inl rfl
    | some b =>
      refine .inr fun e' => ?_
      have h1 := ((h.own a ha).lt b hx).2
      have h2 := (ho.lt b e'.symm).1
      omega
  · rcases List.mem_append.1 hl with hl | hl
    · exact h.small l hl
    · rw [List.mem_singleton] at hl
      subst hl
      exact hn
theorem AOwn.swap {W : World} {base : Nat} {l1 l2 : List LRow} (h : AOwn W base (l1 ++ l2)) : AOwn W base (l2 ++ l1) := by
  obtain ⟨h1, h2, h3⟩ := h
  rw [List.pairwise_append] at h2
  obtain ⟨p1, p2, p3⟩ := h2
  refine ⟨fun l hl => h1 l (by rw [List.mem_append] at hl ⊢; exact hl.symm), List.pairwise_append.2 ⟨p2, p1, fun a ha b hb => ?_⟩, fun l hl => h3 l (by rw [List.mem_append] at hl ⊢; exact hl.symm)⟩
  rcases p3 b hb a ha with h | h
  · cases hx : a.v.ownBlock with
    | none => exact .inl rfl
    | some x => exact .inr (by rw [h]; intro e; cases e)
  · exact .inr fun e => h e.symm
/-- The rows that the law's ways answers. -/
def rowsL (vs : List Value) (rs : List (List ByteArray)) : List LRow := List.zipWith (fun v r => (⟨v, r.length, r.map Value.string⟩ : LRow)) vs rs
theorem rowsL_v {vs : List Value} {rs : List (List ByteArray)} (h : vs.length = rs.length) : (rowsL vs rs).map (·.v) = vs := by
  unfold rowsL
  rw [List.map_zipWith]
  apply List.ext_getElem
  · simp [h]
  · intro i h1 h2
    simp
theorem AOwn.rows {W : World} {base : Nat} {vs : List Value} {rs : List (List ByteArray)} (h : RowsAt base W vs rs) (ap : AptV vs) (hs : ∀ r ∈ rs, r.length ≤ 1000000) : AOwn W base (rowsL vs rs) := by
  have hg : ∀ (i : Nat) (l : LRow), (rowsL vs rs)[i]? = some l → ∃ (v : Value) (r : List ByteArray), vs[i]? = some v ∧ rs[i]? = some r ∧ l = (⟨v, r.length, r.map Value.string⟩ : LRow) := fun i l hl => by
    unfold rowsL at hl
    rw [List.getElem?_zipWith] at hl
    cases hv : vs[i]? with
    | none => rw [hv] at hl; simp at hl
    | some v =>
      cases hr : rs[i]? with
      | none => rw [hv, hr] at hl; simp at hl
      | some r =>
        rw [hv, hr] at hl
        simp at hl
        exact ⟨v, r, rfl, rfl, hl.symm⟩
  refine ⟨fun l hl => ?_, ?_, fun l hl => ?_⟩
  · obtain ⟨i, hi⟩ := List.mem_iff_getElem?.1 hl
    obtain ⟨v, r, h1, h2, rfl⟩ := hg i l hi
    exact h.2 i r v h2 h1
  · rw [List.pairwise_iff_getElem]
    intro i j hi hj hij
    obtain ⟨v, r, h1, _, e1⟩ := hg i _ (List.getElem?_eq_getElem hi)
    obtain ⟨u, s, h2, _, e2⟩ := hg j _ (List.getElem?_eq_getElem hj)
    rw [e1, e2]
    dsimp only
    cases hx : v.ownBlock with
    | none => exact .inl rfl
    | some b =>
      refine .inr fun e => ?_
      obtain ⟨hi', e3⟩ := List.getElem?_eq_some_iff.1 h1
      obtain ⟨hj', e4⟩ := List.getElem?_eq_some_iff.1 h2
      have := List.pairwise_iff_getElem.1 ap i j hi' hj' hij b (by rw [e3]; exact hx)
      rw [e4] at this
      exact this e.symm
  · obtain ⟨i, hi⟩ := List.mem_iff_getElem?.1 hl
    obtain ⟨v, r, _, h2, rfl⟩ := hg i l hi
    exact hs r (List.mem_of_getElem? h2)
/-- The first i rows are full of their marks. -/
structure Mkd (w : World) (base : Nat) (ls : List LRow) (i : Nat) (W : World) : Prop where
  but : ButS (Blocks ls) w W
  todo : ∀ j l, i ≤ j → ls[j]? = some l → W.ownsRow base 9 1 l.v l.n l.xs
  done : ∀ j l, j < i → ls[j]? = some l → W.ownsRow base 9 1 l.v l.n (fullV l.n (markT j))
structure MkdR (W0 : World) (base : Nat) (l : LRow) (i k : Nat) (W : World) : Prop where
  row : W.ownsRow base 9 1 l.v l.n (partV i k l.xs)
  but : ButS (fun b => l.v.ownBlock = some b) W0 W
theorem Mkd.start {w : World} {base : Nat} {ls : List LRow} (h : AOwn w base ls) : Mkd w base ls 0 w := ⟨ButS.refl _ _, fun _ l _ hl => h.own l (List.mem_of_getElem? hl), fun _ _ hj => absurd hj (Nat.not_lt_zero _)⟩
theorem MkdR.start {W : World} {base i : Nat} {l : LRow} (h : W.ownsRow base 9 1 l.v l.n l.xs) : MkdR W base l i 0 W := ⟨h, ButS.refl _ _⟩
theorem MkdR.step {W0 W : World} {base i k g c : Nat} {l : LRow} (h : MkdR W0 base l i k W) (hv : l.v = .slice (some ⟨g, 0, none⟩) l.n c) (hk : k < l.xs.length) : MkdR W0 base l i (k + 1) (W.setCell ⟨g, k, none⟩ (.string (markT i))) := by
  have h1 := h.row
  rw [hv] at h1
  have h2 := (h1.stored k (.string (markT i))).1
  rw [partV_set hk, ← hv] at h2
  exact ⟨h2, h.but.set (.inl (by rw [hv]; rfl)) k _⟩
theorem Mkd.next {w W0 W : World} {base i : Nat} {ls : List LRow} {l : LRow} (hp : ls.Pairwise fun a b => a.v.ownBlock = none ∨ a.v.ownBlock ≠ b.v.ownBlock) (h : Mkd w base ls i W0) (hl : ls[i]? = some l) (hr : MkdR W0 base l i l.n W) : Mkd w base ls (i + 1) W := by
  refine ⟨h.but.trans (hr.but.mono fun b _ e => ⟨l, List.mem_of_getElem? hl, e⟩), fun j l' hj hl' => hr.but.own (h.todo j l' (by omega) hl') (fun b hb e => apart_at hp (by omega) hl' hl hb e), fun j l' hj hl' => ?_⟩
  by_cases hji : j = i
  · subst hji
    rw [hl] at hl'
    cases hl'
    have h1 := hr.row
    have h2 := (h.todo j l (Nat.le_refl _) hl).1
    have e : partV j l.n l.xs = fullV l.n (markT j) := by
      unfold partV fullV
      rw [List.drop_of_length_le (by omega), List.append_nil]
    rwa [e] at h1
  · exact hr.but.own (h.done j l' (by omega) hl') (fun b hb e => apart_at hp hji hl' hl hb e)
/-- The rows, full of their marks. -/
def mkdL (ls : List LRow) : List LRow := ls.mapIdx fun i l => (⟨l.v, l.n, fullV l.n (markT i)⟩ : LRow)
theorem mkdL_v (ls : List LRow) : (mkdL ls).map (·.v) = ls.map (·.v) := by
  apply List.ext_getElem
  · simp [mkdL]
  · intro i h1 h2
    simp [mkdL]
theorem mkdL_at {ls : List LRow} {i : Nat} {l : LRow} (h : ls[i]? = some l) : (mkdL ls)[i]? = some ⟨l.v, l.n, fullV l.n (markT i)⟩ := by simp [mkdL, h]
theorem mkdL_of {ls : List LRow} {i : Nat} {l : LRow} (h : (mkdL ls)[i]? = some l) : ∃ l', ls[i]? = some l' ∧ l = ⟨l'.v, l'.n, fullV l'.n (markT i)⟩ := by
  cases h2 : ls[i]? with
  | none => simp [mkdL, h2] at h
  | some l' =>
    rw [mkdL_at h2] at h
    cases h
    exact ⟨l', rfl, rfl⟩
theorem Mkd.all {w W : World} {base : Nat} {ls : List LRow} (h : Mkd w base ls ls.length W) (ha : AOwn w base ls) : AOwn W base (mkdL ls) := by
  refine ⟨fun l hl => ?_, ?_, fun l hl => ?_⟩
  · obtain ⟨i, hi⟩ := List.mem_iff_getElem?.1 hl
    obtain ⟨l', h1, rfl⟩ := mkdL_of hi
    exact h.done i l' (List.getElem?_eq_some_iff.1 h1).1 h1
  · rw [List.pairwise_iff_getElem]
    intro i j hi hj hij
    obtain ⟨l1, h1, e1⟩ := mkdL_of (List.getElem?_eq_getElem hi)
    obtain ⟨l2, h2, e2⟩ := mkdL_of (List.getElem?_eq_getElem hj)
    rw [e1, e2]
    obtain ⟨hi', e3⟩ := List.getElem?_eq_some_iff.1 h1
    obtain ⟨hj', e4⟩ := List.getElem?_eq_some_iff.1 h2
    have := List.pairwise_iff_getElem.1 ha.apart i j hi' hj' hij
    rwa [e3, e4] at this
  · obtain ⟨i, hi⟩ := List.mem_iff_getElem?.1 hl
    obtain ⟨l', h1, rfl⟩ := mkdL_of hi
    exact ha.small l' (List.mem_of_getElem? h1)
theorem mkdL_blocks {ls : List LRow} {b : Nat} (h : Blocks (mkdL ls) b) : Blocks ls b := by
  obtain ⟨l, hl, e⟩ := h
  obtain ⟨i, hi⟩ := List.mem_iff_getElem?.1 hl
  obtain ⟨l', h1, rfl⟩ := mkdL_of hi
  exact ⟨l', List.mem_of_getElem? h1, e⟩
/-- The text that is put behind row i. -/
def elT (i : Nat) (_ : Nat) : List Value := [.string (markT i ++ ⟨#[43]⟩)]
theorem elT_len (i k : Nat) : (elT i k).length = 1 := rfl
theorem elT_one (i k : Nat) : ∀ u ∈ elT i k, u.oneCell' = true := by
  intro u hu
  simp [elT] at hu
  subst hu
  rfl
theorem built_own (w : World) (base : Nat) (vs : List Value) (e : TypeId) (hb : base ≤ w.heap.size) (h : vs.length ≤ maxLen) : (w.alloc (.cells vs.toArray e)).ownsRow base e 1 (.slice (some ⟨w.heap.size, 0, none⟩) vs.length vs.length) vs.length vs :=
  ⟨by simp, .inr ⟨w.heap.size, vs.length, vs.toArray, rfl, hb, World.alloc_heap_new w _, Nat.le_refl _, h, by simp, by simp⟩⟩
theorem AOwn.grown {W W' : World} {base : Nat} {ls : List LRow} {r : Option Nat} (h : AOwn W base ls) (g : W.grownBy W' r) (hr : ∀ l ∈ ls, l.v.ownBlock = none ∨ l.v.ownBlock ≠ r) : AOwn W' base ls := ⟨fun l hl => (h.own l hl).kept g (hr l hl), h.apart, h.small⟩
theorem own_nil {w : World} {base n size : Nat} {e : TypeId} {a : Option Addr} {c : Nat} {xs : List Value} (h : w.ownsRow base e size (.slice a n c) n xs) : a = none → n = 0 ∧ c = 0 := by
  rintro rfl
  rcases h.2 with ⟨h1, h0⟩ | ⟨g, c', cur, hv, _⟩
  · cases h1
    exact ⟨rfl, rfl⟩
  · cases hv
theorem MkdR.ext {W0 W W' : World} {base i k : Nat} {l : LRow} (h : MkdR W0 base l i k W) (e : Ext W W') : MkdR W0 base l i k W' := ⟨up_ext h.row e, h.but.ext e⟩
end Go.Proofs.Ythjpfplebbnbpaa
