/- Lists of numbers in a list that grows. Own rows that lie apart: each of them can be written and gone on with. -/
import Derived.Test.YtlalgaioiapjmaaGreatDoorG20
import Derived.Test.YtlalgaioiapjmaaGreatDoorG21
namespace Go.Proofs.YtlalgaioiapjmaaGreatDoor
open Go.ChangeShapes Go.WideShapes Go.ChangeAt Go.RowKit
theorem own_set_in {w : World} {base n size cap g j : Nat} {e : TypeId} {xs : List Value} (h : w.ownsRow base e size (.slice (some ⟨g, 0, none⟩) n cap) n xs) (u : Value) : (w.setCell ⟨g, j, none⟩ u).ownsRow base e size (.slice (some ⟨g, 0, none⟩) n cap) n (xs.set j u) := by
  obtain ⟨hl, h2⟩ := h
  rcases h2 with ⟨h0, _⟩ | ⟨g', cap', cur, hv, hb, hg, hn, hcm, hsz, ht⟩
  · cases h0
  · cases hv
    refine ⟨by rw [List.length_set, hl], .inr ⟨g, cap, cur.setIfInBounds j u, rfl, hb, ?_, hn, hcm, by simp [hsz], ?_⟩⟩
    · simp [World.setCell, Array.getElem?_modify, hg]
    · rw [Array.toList_setIfInBounds, ← ht, List.take_set]
theorem own_free {w : World} {base n size cap g j : Nat} {e : TypeId} {xs : List Value} (h : w.ownsRow base e size (.slice (some ⟨g, 0, none⟩) n cap) n xs) : w.frozen? ⟨g, j, none⟩ = false := by
  obtain ⟨hl, h2⟩ := h
  rcases h2 with ⟨h0, _⟩ | ⟨g', cap', cur, hv, hb, hg, hr⟩
  · cases h0
  · cases hv
    simp [World.frozen?, hg]
/-- Lists of at most K numbers, each in a block of its own, under a list's places. -/
structure LLs (W : World) (lo : Nat) (a : Option Addr) (n c K : Nat) (vs : List Value) : Prop where
  own : W.ownsRow lo 52 1 (.slice a n c) n vs
  each : ∀ (i : Nat) v, vs[i]? = some v → ∃ m, ∃ l : List Int, m ≤ K ∧ W.ownsRow lo 3 1 v m (l.map intV)
  sep : ∀ (i j : Nat) v v', i ≠ j → vs[i]? = some v → vs[j]? = some v' → ∀ b, v.ownBlock = some b → v'.ownBlock ≠ some b
section
variable {W W' w6 : World} {lo n c K : Nat} {a : Option Addr} {vs : List Value}
theorem LLs.start (W : World) (lo K : Nat) : LLs W lo none 0 0 K [] := ⟨World.ownsRow_nil _ _ _ _, fun i v h => by simp at h, fun i j v v' _ h => by simp at h⟩
theorem LLs.ext (h : LLs W lo a n c K vs) (e : Ext W W') : LLs W' lo a n c K vs :=
  ⟨up_ext h.own e, fun i v hi => by obtain ⟨m, l, h1, h2⟩ := h.each i v hi; exact ⟨m, l, h1, up_ext h2 e⟩, h.sep⟩
theorem LLs.mono (h : LLs W lo a n c K vs) {K' : Nat} (hk : K ≤ K') : LLs W lo a n c K' vs :=
  ⟨h.own, fun i v hi => by obtain ⟨m, l, h1, h2⟩ := h.each i v hi; exact ⟨m, l, Nat.le_trans h1 hk, h2⟩, h.sep⟩
/-- They stand when blocks of other types are written. -/
theorem LLs.but (h : LLs W lo a n c K vs) {S : Nat → Prop} (e : ButS S W W') (hs : ∀ b, S b → ¬ Ty W b 3 ∧ ¬ Ty W b 52) : LLs W' lo a n c K vs :=
  ⟨e.own h.own (fun b hb q => (hs b q).2 (own_ty h.own hb)), fun i v hi => by
    obtain ⟨m, l, h1, h2⟩ := h.each i v hi
    exact ⟨m, l, h1, e.own h2 (fun b hb q => (hs b q).1 (own_ty h2 hb))⟩, h.sep⟩
/-- One empty list more. -/
theorem LLs.more (h : LLs W lo a n c K vs) {o : Obj} {g c' : Nat} (own6 : w6.ownsRow lo 52 1 (.slice (some ⟨g, 0, none⟩) (n + 1) c') (n + 1) (vs ++ [.slice none 0 0])) (gr : (W.alloc o).grownBy w6 (Value.slice a n c).ownBlock) : LLs w6 lo (some ⟨g, 0, none⟩) (n + 1) c' K (vs ++ [.slice none 0 0]) := by
  have b6 : ButS (fun b => (Value.slice a n c).ownBlock = some b) W w6 := ((ButS.refl _ W).alloc o).grown gr (fun b e => .inl e)
  have each : ∀ (i : Nat) v, (vs ++ [.slice none 0 0])[i]? = some v → (i < vs.length ∧ vs[i]? = some v) ∨ v = .slice none 0 0 := fun i v hi => by
    rcases Nat.lt_or_ge i vs.length with h1 | h1
    · rw [List.getElem?_append_left h1] at hi
      exact .inl ⟨h1, hi⟩
    · rw [List.getElem?_append_right h1] at hi
      refine .inr ?_
      cases hk : i - vs.length with
      | zero => rw [hk] at hi; simpa using hi.symm
      | succ k => rw [hk] at hi; simp at hi
  refine ⟨own6, fun i v hi => ?_, fun i j v v' hij hi hj b hb e => ?_⟩
  · rcases each i v hi with ⟨_, h1⟩ | rfl
    · obtain ⟨m, l, h2, h3⟩ := h.each i v h1
      exact ⟨m, l, h2, b6.own h3 (fun b hb q => (own_ty h3 hb).ne (own_ty h.own q) (by decide) rfl)⟩
    · exact ⟨0, [], Nat.zero_le _, World.ownsRow_nil _ _ _ _⟩
  · rcases each i v hi with ⟨_, h1⟩ | rfl
    · rcases each j v' hj with ⟨_, h2⟩ | rfl
      · exact h.sep i j v v' hij h1 h2 b hb e
      · cases e
    · cases hb
theorem LLs.place (h : LLs W lo a n c K vs) {k : Nat} {v : Value} (hk : vs[k]? = some v) : ∃ ga, a = some ⟨ga, 0, none⟩ ∧ W.cell? ⟨ga, k, none⟩ = some v := by
  have hkl := (List.getElem?_eq_some_iff.1 hk).1
  obtain ⟨ga, ha⟩ : ∃ ga, a = some ⟨ga, 0, none⟩ := by
    rcases h.own.2 with ⟨h1, h0⟩ | ⟨g', c2, cur, hv, _⟩
    · have := h.own.1
      omega
    · cases hv
      exact ⟨g', rfl⟩
  subst ha
  refine ⟨ga, rfl, ?_⟩
  have := h.own.cells (g := ga) rfl k _ hk
  rw [Addr.add_lit] at this
  simpa using this
/-- One number more in one of them. -/
theorem LLs.push (h : LLs W lo a n c K vs) {k : Nat} {fa : Option Addr} {m fc : Nat} {l : List Int} (hk : vs[k]? = some (.slice fa m fc)) (hm : m ≤ K) (own : W.ownsRow lo 3 1 (.slice fa m fc) m (l.map intV)) {o : Obj} {g c' : Nat} {z : Int} (own6 : w6.ownsRow lo 3 1 (.slice (some ⟨g, 0, none⟩) (m + 1) c') (m + 1) (l.map intV ++ [intV z])) (gr : (W.alloc o).grownBy w6 (Value.slice fa m fc).ownBlock) (hat : (Value.slice fa m fc).ownBlock = some g ∨ W.heap.size ≤ g) :
    ∃ ga, a = some ⟨ga, 0, none⟩ ∧ lo ≤ ga ∧ Ty W ga 52 ∧ W.cell? ⟨ga, k, none⟩ = some (.slice fa m fc) ∧ w6.cell? ⟨ga, k, none⟩ = some (.slice fa m fc) ∧ w6.frozen? ⟨ga, k, none⟩ = false ∧ ButS (fun b => (Value.slice fa m fc).ownBlock = some b) W w6 ∧ LLs (w6.setCell ⟨ga, k, none⟩ (.slice (some ⟨g, 0, none⟩) (m + 1) c')) lo a n c (K + 1) (vs.set k (.slice (some ⟨g, 0, none⟩) (m + 1) c')) := by
  have b6 : ButS (fun b => (Value.slice fa m fc).ownBlock = some b) W w6 := ((ButS.refl _ W).alloc o).grown gr (fun b e => .inl e)
  have hkl := (List.getElem?_eq_some_iff.1 hk).1
  obtain ⟨ga, ha⟩ : ∃ ga, a = some ⟨ga, 0, none⟩ := by
    rcases h.own.2 with ⟨h1, h0⟩ | ⟨g', c2, cur, hv, _⟩
    · have := h.own.1
      omega
    · cases hv
      exact ⟨g', rfl⟩
  subst ha
  have tga : Ty W ga 52 := own_ty h.own rfl
  have nga : ¬ (Value.slice fa m fc).ownBlock = some ga := fun e => (own_ty own e).ne tga (by decide) rfl
  have own7 := b6.own h.own (fun b hb q => by cases hb; exact nga q)
  have hck : ∀ W' : World, W'.ownsRow lo 52 1 (.slice (some ⟨ga, 0, none⟩) n c) n vs → W'.cell? ⟨ga, k, none⟩ = some (.slice fa m fc) := fun W' ho => by
    have := ho.cells (g := ga) rfl k _ hk
    rw [Addr.add_lit] at this
    simpa using this
  have tg : Ty w6 g 3 := own_ty own6 rfl
  have gne : g ≠ ga := tg.ne (own_ty own7 rfl) (by decide)
  have b7 : ButS (fun b => b = ga) w6 (w6.setCell ⟨ga, k, none⟩ (.slice (some ⟨g, 0, none⟩) (m + 1) c')) := (ButS.refl (fun b => b = ga) w6).set (.inl rfl) _ _
  have hgn : ∀ (i : Nat) v, i ≠ k → vs[i]? = some v → ∀ b, v.ownBlock = some b → b ≠ g := fun i v hik hi b hb e => by
    subst e
    rcases hat with e | e
    · exact h.sep i k v _ hik hi hk b hb e
    · obtain ⟨m', l', _, h3⟩ := h.each i v hi
      have := (h3.lt b hb).2
      omega
  refine ⟨ga, rfl, (h.own.lt ga rfl).1, tga, hck W h.own, hck w6 own7, own_free own7, b6, own_set_in own7 _, fun i v hi => ?_, fun i j v v' hij hi hj b hb e => ?_⟩
  · rw [List.getElem?_set] at hi
    by_cases hik : k = i
    · rw [if_pos hik, if_pos (by omega)] at hi
      cases hi
      refine ⟨m + 1, l ++ [z], by omega, ?_⟩
      rw [List.map_append]
      exact b7.own own6 (fun b hb q => by cases hb; exact gne q)
    · rw [if_neg hik] at hi
      obtain ⟨m', l', h2, h3⟩ := h.each i v hi
      refine ⟨m', l', by omega, b7.own (b6.own h3 (fun b hb q => h.sep i k v _ (Ne.symm hik) hi hk b hb q)) (fun b hb q => ?_)⟩
      subst q
      exact (own_ty h3 hb).ne tga (by decide) rfl
  · rw [List.getElem?_set] at hi hj
    by_cases hik : k = i
    · have hjk : ¬ k = j := fun q => hij (hik.symm.trans q)
      rw [if_pos hik, if_pos (by omega)] at hi
      rw [if_neg hjk] at hj
      cases hi
      cases hb
      exact hgn j v' (Ne.symm hjk) hj _ e rfl
    · rw [if_neg hik] at hi
      by_cases hjk : k = j
      · rw [if_pos hjk, if_pos (by omega)] at hj
        cases hj
        cases e
        exact hgn i v (Ne.symm hik) hi _ hb rfl
      · rw [if_neg hjk] at hj
        exact h.sep i j v v' hij hi hj b hb e
end
theorem infoI : (Tryz.prog.info? 52).map (fun i => (i.zero, i.size, i.bytes)) = some (some (.slice none 0 0), 1, 24) := by kernel_rfl
theorem newsN (w : World) (u : Value) (t : TypeId) : ∀ j x, [u][j]? = some x → (w.alloc (.cells #[u] t)).cell? ((⟨w.heap.size, 0, none⟩ : Addr).add j) = some x := news1 w u t
/-- One empty list more, in a region that draws nothing. -/
theorem wpList_push_nil {ops : Array Oper} {rest : List Oper} {o : Oper} {a : Act} {Q : Exit → Act → World → Prop} (W0 : World) (base : Nat) (fa : Option Addr) (n fc : Nat) (l : List Value) (hown : W0.ownsRow base 52 1 (.slice fa n fc) n l) (hn : n ≤ 1000000000000) (hbase : base ≤ W0.heap.size) (hgd : o.guard = none) (s x : Operand)
    (ho : o.op = .call { callee := .builtin .append, args := #[s, x], argTypes := #[53, 53] }) (hs : a.eval s = .slice fa n fc) (hx : a.eval x = .slice (some ⟨W0.heap.size, 0, none⟩) 1 1)
    (h : ∀ g cap w', w'.ownsRow base 52 1 (.slice (some ⟨g, 0, none⟩) (n + 1) cap) (n + 1) (l ++ [.slice none 0 0]) → (W0.alloc (.cells #[.slice none 0 0] 52)).grownBy w' (Value.slice fa n fc).ownBlock → ((Value.slice fa n fc).ownBlock = some g ∨ W0.heap.size ≤ g) → wpList Tryz.prog ops Q rest (a.put o.dst (.slice (some ⟨g, 0, none⟩) (n + 1) cap)) w') :
    wpList Tryz.prog ops Q (o :: rest) a (W0.alloc (.cells #[.slice none 0 0] 52)) := by
  obtain ⟨n0, hn0, nz0, nz1, nz2⟩ := info_parts infoI
  exact wpList_append_one _ hgd s x 53 ho base 52 n0 (.slice none 0 0) 1 24 Tryz.underlying53 hn0 nz0 nz1 nz2 rfl (by decide) _ n _ l hs (hown.alloc _) ⟨W0.heap.size, 0, none⟩ 1 [.slice none 0 0] hx rfl (newsN W0 _ _) (by simp [Value.oneCell']) (by unfold maxLen; omega) (by omega) (by simp; omega) fun g cap w1 hown1 hgrow hat _ => h g cap w1 hown1 hgrow (hat.imp id fun e => by rw [e]; simp)
/-- Between two rounds of strata.Of: the answer so far, in block ob. -/
structure OfS (w3 : World) (ob : Nat) (x y : Value) (i : Nat) (ra : Option Addr) (rn rc : Nat) (vs : List Value) (wr : World) : Prop where
  blk : Blk wr ob 55 [x, y, .slice ra rn rc]
  rows : LLs wr w3.heap.size ra rn rc i vs
  few : rn ≤ 100000000001
  ext : Ext w3 wr
  lo : w3.heap.size ≤ ob
section
variable {w3 : World} {ob i rn rc : Nat} {x y : Value} {ra : Option Addr} {vs : List Value} {wr W w6 : World}
theorem OfS.up (h : OfS w3 ob x y i ra rn rc vs wr) (e : Ext wr W) : OfS w3 ob x y i ra rn rc vs W := ⟨h.blk.ext e, h.rows.ext e, h.few, ext_trans h.ext e, h.lo⟩
theorem OfS.more (h : OfS w3 ob x y i ra rn rc vs W) {o : Obj} {g c' : Nat} (hf : rn ≤ 100000000000) (own6 : w6.ownsRow w3.heap.size 52 1 (.slice (some ⟨g, 0, none⟩) (rn + 1) c') (rn + 1) (vs ++ [.slice none 0 0])) (gr : (W.alloc o).grownBy w6 (Value.slice ra rn rc).ownBlock) :
    w6.cell? ⟨ob, 2, none⟩ = some (.slice ra rn rc) ∧ w6.frozen? ⟨ob, 2, none⟩ = false ∧ OfS w3 ob x y i (some ⟨g, 0, none⟩) (rn + 1) c' (vs ++ [.slice none 0 0]) (w6.setCell ⟨ob, 2, none⟩ (.slice (some ⟨g, 0, none⟩) (rn + 1) c')) := by
  have b6 : ButS (fun b => (Value.slice ra rn rc).ownBlock = some b) W w6 := ((ButS.refl _ W).alloc o).grown gr (fun b e => .inl e)
  have n1 : ¬ (Value.slice ra rn rc).ownBlock = some ob := fun e => (own_ty h.rows.own e).ne h.blk.ty (by decide) rfl
  have B6 := h.blk.but b6 n1
  have b7 : ButS (fun b => b = ob) w6 (w6.setCell ⟨ob, 2, none⟩ (.slice (some ⟨g, 0, none⟩) (rn + 1) c')) := (ButS.refl (fun b => b = ob) w6).set (.inl rfl) _ _
  refine ⟨B6.cell rfl, B6.free 2, B6.set 2 _, (h.rows.more own6 gr).but b7 (fun b hb => ?_), by omega, ext_of_but (ext_of_but h.ext b6 (fun c hc q => ?_)) b7 (fun c hc q => ?_), h.lo⟩
  · subst hb
    exact ⟨fun t => t.ne B6.ty (by decide) rfl, fun t => t.ne B6.ty (by decide) rfl⟩
  · have := (h.rows.own.lt c q).1
    omega
  · have := h.lo
    omega
theorem OfS.push (h : OfS w3 ob x y i ra rn rc vs W) {k : Nat} {fa : Option Addr} {m fc : Nat} {l : List Int} (hk : vs[k]? = some (.slice fa m fc)) (hm : m ≤ i) (own : W.ownsRow w3.heap.size 3 1 (.slice fa m fc) m (l.map intV)) {o : Obj} {g c' : Nat} {z : Int} (own6 : w6.ownsRow w3.heap.size 3 1 (.slice (some ⟨g, 0, none⟩) (m + 1) c') (m + 1) (l.map intV ++ [intV z])) (gr : (W.alloc o).grownBy w6 (Value.slice fa m fc).ownBlock) (hat : (Value.slice fa m fc).ownBlock = some g ∨ W.heap.size ≤ g) :
    ∃ ga, ra = some ⟨ga, 0, none⟩ ∧ w6.cell? ⟨ga, k, none⟩ = some (.slice fa m fc) ∧ w6.frozen? ⟨ga, k, none⟩ = false ∧ w6.cell? ⟨ob, 2, none⟩ = some (.slice ra rn rc) ∧ OfS w3 ob x y (i + 1) ra rn rc (vs.set k (.slice (some ⟨g, 0, none⟩) (m + 1) c')) (w6.setCell ⟨ga, k, none⟩ (.slice (some ⟨g, 0, none⟩) (m + 1) c')) := by
  obtain ⟨ga, q1, q2, q3, q4, q5, q6, b6, q7⟩ := h.rows.push hk hm own own6 gr hat
  have n1 : ¬ (Value.slice fa m fc).ownBlock = some ob := fun e => (own_ty own e).ne h.blk.ty (by decide) rfl
  have n2 : ob ≠ ga := h.blk.ty.ne q3 (by decide)
  have B6 := h.blk.but b6 n1
  have b7 : ButS (fun b => b = ga) w6 (w6.setCell ⟨ga, k, none⟩ (.slice (some ⟨g, 0, none⟩) (m + 1) c')) := (ButS.refl (fun b => b = ga) w6).set (.inl rfl) _ _
  refine ⟨ga, q1, q5, q6, B6.cell rfl, B6.but b7 n2, q7, h.few, ext_of_but (ext_of_but h.ext b6 (fun c hc q => ?_)) b7 (fun c hc q => ?_), h.lo⟩
  · have := (own.lt c q).1
    omega
  · omega
end
end Go.Proofs.YtlalgaioiapjmaaGreatDoor
namespace Go.Proofs.YtlalgaioiapjmaaGreatDoor
open Go.ChangeShapes Go.WideShapes Go.ChangeAt Go.RowKit
structure ORow where
  e : TypeId
  size : Nat
  v : Value
  n : Nat
  xs : List Value
def apartV (u v : Value) : Prop := u.ownBlock = none ∨ u.ownBlock ≠ v.ownBlock
theorem apartV.symm {u v : Value} (h : apartV u v) : apartV v u := by
  unfold apartV at *
  rcases h with h | h
  · by_cases hv : v.ownBlock = none
    · exact .inl hv
    · exact .inr (by rw [h]; exact hv)
  · exact .inr (fun e => h e.symm)
structure RowsS (w0 : World) (ls : List ORow) (w : World) : Prop where
  ext : Ext w0 w
  own : ∀ r ∈ ls, w.ownsRow w0.heap.size r.e r.size r.v r.n r.xs
  apart : ls.Pairwise fun a b => apartV a.v b.v
section
variable {w0 w w' : World} {ls : List ORow}
theorem RowsS.start (w0 : World) : RowsS w0 [] w0 := ⟨Below.refl _ _, by simp, .nil⟩
theorem RowsS.up (h : RowsS w0 ls w) (e : Ext w w') : RowsS w0 ls w' := ⟨ext_trans h.ext e, fun r hr => up_ext (h.own r hr) e, h.apart⟩
theorem RowsS.add {t : TypeId} {size n : Nat} {v : Value} {xs : List Value} (h : RowsS w0 ls w) (e : Ext w w') (o : w'.ownsRow w.heap.size t size v n xs) : RowsS w0 (⟨t, size, v, n, xs⟩ :: ls) w' := by
  refine ⟨ext_trans h.ext e, fun r hr => ?_, List.pairwise_cons.2 ⟨fun r hr => ?_, h.apart⟩⟩
  · rcases List.mem_cons.1 hr with rfl | hr
    · exact own_base o h.ext.size
    · exact up_ext (h.own r hr) e
  · show apartV v r.v
    cases hx : v.ownBlock with
    | none => exact .inl hx
    | some b =>
      refine .inr fun e' => ?_
      have h1 := (o.lt b hx).1
      have h2 := ((h.own r hr).lt b (e'.symm.trans hx)).2
      omega
theorem RowsS.ne (h : RowsS w0 ls w) {i j : Nat} {r s : ORow} (hi : ls[i]? = some r) (hj : ls[j]? = some s) (hne : i ≠ j) : apartV r.v s.v := by
  obtain ⟨h1, rfl⟩ := List.getElem?_eq_some_iff.1 hi
  obtain ⟨h2, rfl⟩ := List.getElem?_eq_some_iff.1 hj
  rcases Nat.lt_or_gt_of_ne hne with hl | hl
  · exact List.pairwise_iff_getElem.1 h.apart i j h1 h2 hl
  · exact (List.pairwise_iff_getElem.1 h.apart j i h2 h1 hl).symm
theorem RowsS.step {i : Nat} {r r' : ORow} (h : RowsS w0 ls w) (hi : ls[i]? = some r) (o : w'.ownsRow w0.heap.size r'.e r'.size r'.v r'.n r'.xs) (gb : w.grownBy w' r.v.ownBlock) (hl : ∀ b, r'.v.ownBlock = some b → r.v.ownBlock = some b ∨ ∀ s ∈ ls, s.v.ownBlock ≠ some b) : RowsS w0 (ls.set i r') w' := by
  have hil := (List.getElem?_eq_some_iff.1 hi).1
  have AP : ∀ j s, ls[j]? = some s → i ≠ j → apartV s.v r'.v := fun j s hs hne => by
    have h1 := h.ne hs hi (Ne.symm hne)
    cases hx : r'.v.ownBlock with
    | none =>
      by_cases hv : s.v.ownBlock = none
      · exact .inl hv
      · exact .inr (by rw [hx]; exact hv)
    | some b =>
      rcases hl b hx with h2 | h2
      · unfold apartV at *
        rw [hx, ← h2]
        exact h1
      · exact .inr (by rw [hx]; exact h2 s (List.mem_of_getElem? hs))
  refine ⟨ext_ownB h.ext gb (fun b hb => ((h.own r (List.mem_of_getElem? hi)).lt b hb).1), fun s hs => ?_, List.pairwise_iff_getElem.2 fun j k hj hk hjk => ?_⟩
  · obtain ⟨j, hj⟩ := List.mem_iff_getElem?.1 hs
    by_cases h1 : i = j
    · subst h1
      rw [List.getElem?_set_self hil] at hj
      cases hj
      exact o
    · rw [List.getElem?_set_ne h1] at hj
      exact (h.own s (List.mem_of_getElem? hj)).kept gb (h.ne hj hi (Ne.symm h1))
  · rw [List.length_set] at hj hk
    rw [List.getElem_set, List.getElem_set]
    by_cases h1 : i = j
    · rw [if_pos h1, if_neg (by omega)]
      exact (AP k _ (List.getElem?_eq_getElem hk) (by omega)).symm
    · rw [if_neg h1]
      by_cases h2 : i = k
      · rw [if_pos h2]
        exact AP j _ (List.getElem?_eq_getElem hj) h1
      · rw [if_neg h2]
        exact List.pairwise_iff_getElem.1 h.apart j k hj hk hjk
theorem RowsS.push {i : Nat} {r : ORow} {o : Obj} {g cap m : Nat} {ys : List Value} (h : RowsS w0 ls w) (hi : ls[i]? = some r) (p1 : w'.ownsRow w0.heap.size r.e r.size (.slice (some ⟨g, 0, none⟩) m cap) m ys) (p2 : (w.alloc o).grownBy w' r.v.ownBlock) (p3 : r.v.ownBlock = some g ∨ w.heap.size ≤ g) : RowsS w0 (ls.set i ⟨r.e, r.size, .slice (some ⟨g, 0, none⟩) m cap, m, ys⟩) w' :=
  (h.up (ext_alloc (Below.refl _ _) o)).step hi p1 p2 fun b hb => by
    cases hb
    rcases p3 with h1 | h1
    · exact .inl h1
    · refine .inr fun s hs e => ?_
      have := ((h.own s hs).lt g e).2
      omega
theorem grown_set (w : World) (g j : Nat) (u : Value) : w.grownBy (w.setCell ⟨g, j, none⟩ u) (some g) :=
  ⟨rfl, rfl, rfl, by simp [World.setCell], fun b hb hne => by
    have hne : g ≠ b := fun e => hne (by rw [e])
    simp [World.setCell, Array.getElem?_modify, hne]⟩
theorem RowsS.set {i : Nat} {t : TypeId} {size g n cap : Nat} {xs : List Value} (h : RowsS w0 ls w) (hi : ls[i]? = some ⟨t, size, .slice (some ⟨g, 0, none⟩) n cap, n, xs⟩) (j : Nat) (u : Value) : RowsS w0 (ls.set i ⟨t, size, .slice (some ⟨g, 0, none⟩) n cap, n, xs.set j u⟩) (w.setCell ⟨g, j, none⟩ u) := by
  have ho := h.own _ (List.mem_of_getElem? hi)
  dsimp only at ho
  exact h.step hi (own_set_in ho u) (grown_set w g j u) fun b hb => .inl hb
theorem RowsS.at (h : RowsS w0 ls w) {i : Nat} {r : ORow} (hi : ls[i]? = some r) : w.ownsRow w0.heap.size r.e r.size r.v r.n r.xs := h.own r (List.mem_of_getElem? hi)
end
end Go.Proofs.YtlalgaioiapjmaaGreatDoor
