/- The walks of slices.Clone at rows, of a set's Items and Each, of slices.Values at rows; its closure's contract for loops over it. The walk of Rows.All: the rows, each in new memory. The walk of slices.Equal at texts. A list of rows without the alikes that stand side by side: a plain law. -/
import Derived.Test.YtpgbenijjodoeaaGreatG4
import Derived.RangeFuncNested
import Derived.RangeFuncBound
import Derived.RangeFuncCalls
import Derived.RangeFuncLeaves
import Derived.RangeFuncBox
import Derived.Shelf.Abstract
import Derived.Shelf.RegionOpen
import Derived.OwnWalkIn
import Derived.TacticsInMore
import Derived.LoopNIn
import Derived.LoopIn
import Derived.Maps.AppendAt
namespace Go.Proofs.YtpgbenijjodoeaaGreat
open Go.ChangeShapes Go.WideShapes Go.ChangeAt Go.RowKit Go.Shelf
attribute [local go_sem] Oper.semAt_some
theorem nil_eqR (w : World) : (binOp .eql 64 (.slice none 0 0) (.slice none 0 0)).run Tryz.prog w = .ok (.bool true) w := by kernel_rfl
theorem some_eqR (ad : Addr) (n cap : Nat) (w : World) : (binOp .eql 64 (.slice (some ad) n cap) (.slice none 0 0)).run Tryz.prog w = .ok (.bool false) w := by kernel_rfl
theorem c_cloneR (vs : List Value) (a : Option Addr) (n cap : Nat) (base : Nat) (w : World) (h : w.ownsRow base 46 1 (.slice a n cap) n vs) (h1 : ∀ v ∈ vs, v.oneCell' = true) (hn : n ≤ 1000000) :
    Calls Tryz.prog 94 #[.slice a n cap] w fun e w' => ∃ a' c', e = .returned (.slice a' n c') ∧ w'.ownsRow w.heap.size 46 1 (.slice a' n c') n vs ∧ Ext w w' := by
  cases a with
  | none =>
    obtain ⟨rfl, rfl⟩ := (cap_of_own h).2 rfl
    have hx : vs = [] := List.eq_nil_of_length_eq_zero (by have := h.1; omega)
    subst hx
    clear h h1
    have eqn := nil_eqR
    go_enter Tryz.func94, Tryz.ntmps94
    go_wp2
    go_returns
    exact ⟨none, 0, rfl, World.ownsRow_nil _ _ _ _, Below.refl _ _⟩
  | some ad =>
    obtain ⟨i0, hi, hz0, hz1, hz2⟩ := info_parts info_row
    have IL := Lib.hid h.1
    have IC := Lib.hid (own_src (h.alloc (.cells #[] 46)))
    have IO := Lib.hid h1
    have H3 : Hid (0 + n ≤ maxLen) := by show _ ≤ _; unfold maxLen; omega
    have H4 : Hid ((0 + n) * 24 ≤ 140737488355328) := by show _ ≤ _; omega
    have hown0 : (w.alloc (.cells #[] 46)).ownsRow w.heap.size 46 1 (.slice (some ⟨w.heap.size, 0, none⟩) 0 0) 0 [] := World.ownsRow_lit w #[] 0 (Nat.le_refl _) (by unfold maxLen; omega) rfl
    have HO := Lib.hid hown0
    have eqn := some_eqR ad n cap
    clear h h1 hown0
    go_enter Tryz.func94, Tryz.ntmps94
    go_wp2_with (at_builtin; go_loud (refine wpList_append_any rfl _ _ 64 rfl w.heap.size 46 i0 (.slice none 0 0) 1 24 Tryz.underlying64 hi hz0 hz1 hz2 rfl (by decide) _ _ _ rfl HO.out (some ad) n cap vs rfl (by intro h; cases h) IL.out IC.out IO.out H3.out H4.out (size_alloc_le (Nat.le_refl _)) ?_); intro v1 w1 own1 g1)
    obtain ⟨a1, c1, rfl, _⟩ := own_form own1
    have hb := ext_ownB (ext_alloc (Below.refl _ w : Ext w w) _) g1 (by intro g e; cases e; exact Nat.le_refl _)
    go_returns
    rw [Nat.zero_add, List.nil_append] at own1
    exact ⟨a1, c1, by rw [Nat.zero_add]; rfl, own1, hb⟩
/-- A slice of rows at hand: the values are the cells of a row of the call's own; each is a row of its own. -/
def RowsAt (lo : Nat) (w : World) (vs : List Value) (rs : List (List ByteArray)) : Prop := vs.length = rs.length ∧ ∀ (i : Nat) (r : List ByteArray) (v : Value), rs[i]? = some r → vs[i]? = some v → w.ownsRow lo 9 1 v r.length (r.map Value.string)
theorem RowsAt.one {lo : Nat} {w : World} {vs : List Value} {rs : List (List ByteArray)} (h : RowsAt lo w vs rs) : ∀ v ∈ vs, v.oneCell' = true := fun v hv => by
  obtain ⟨k, hk⟩ := List.mem_iff_getElem?.1 hv
  have hkl := (List.getElem?_eq_some_iff.1 hk).1
  obtain ⟨r, hrr⟩ : ∃ r, rs[k]? = some r := ⟨_, List.getElem?_eq_getElem (by have := h.1; omega)⟩
  obtain ⟨_, _, e, _⟩ := own_form (h.2 k r v hrr hk)
  rw [e]
  rfl
theorem RowsAt.ext {lo : Nat} {w w' : World} {vs : List Value} {rs : List (List ByteArray)} (h : RowsAt lo w vs rs) (e : Ext w w') : RowsAt lo w' vs rs := ⟨h.1, fun i r v hr hv => up_ext (h.2 i r v hr hv) e⟩
theorem RowsV.rows {w : World} {lo pb ar : Nat} {rs : List (List ByteArray)} (h : RowsV w lo pb ar rs) : ∃ a c vs, w.cell? ⟨pb, 1, none⟩ = some (.slice a rs.length c) ∧ w.ownsRow lo 46 1 (.slice a rs.length c) rs.length vs ∧ RowsAt lo w vs rs := by
  obtain ⟨a, c, vs, h1, h2, h3⟩ := h.row
  exact ⟨a, c, vs, h1, h2, by have := h2.1; omega, h3⟩
/-- The iterator at rows: a slice that is the call's own, its values rows of the set. -/
def ItsPost (lo : Nat) (rs : List (List ByteArray)) (w : World) (e : Ending) (w' : World) : Prop := ∃ a c vs, e = .returned (.slice a rs.length c) ∧ w'.ownsRow w.heap.size 46 1 (.slice a rs.length c) rs.length vs ∧ RowsAt lo w vs rs ∧ Ext w w'
theorem c_itemsS (lo pb ar : Nat) (rs : List (List ByteArray)) (w : World) (h : RowsV w lo pb ar rs) (hn : rs.length ≤ 1000000) :
    Calls Tryz.prog 75 #[.pointer (some ⟨pb, 0, none⟩)] w (ItsPost lo rs w) := by
  obtain ⟨a, c, vs, h1, h2, h3⟩ := h.rows
  have CL := Lib.hid (c_cloneR vs a rs.length c lo w h2 h3.one hn)
  have H3 := Lib.hid h3
  clear h h2 h3
  go_enter Tryz.func75, Tryz.ntmps75
  go_wp2_with (go_at_call 94; (with_reducible refine CL.out.mono ?_); rintro e w1 ⟨a7, c7, rfl, r7, e7⟩)
  go_returns
  exact ⟨a7, c7, vs, rfl, r7, H3.out, e7⟩
theorem c_values (a : Option Addr) (n c : Nat) (w : World) :
    Calls Tryz.prog 31 #[.slice a n c] w fun e w' => e = .returned (.func (.func 59) #[] #[.pointer (some ⟨w.heap.size, 0, none⟩)]) ∧ w' = w.alloc (.cells #[.slice a n c] 64) := by
  go_enter Tryz.func31, Tryz.ntmps31
  go_wp2
  go_returns
  exact ⟨rfl, rfl⟩
/-- The iterator over rows: the closure's box holds a slice of its own. -/
def EachPost (lo : Nat) (rs : List (List ByteArray)) (w : World) (e : Ending) (w' : World) : Prop := ∃ bs a c vs, e = .returned (.func (.func 59) #[] #[.pointer (some ⟨bs, 0, none⟩)]) ∧ w.heap.size ≤ bs ∧ bs < w'.heap.size ∧ w'.cell? ⟨bs, 0, none⟩ = some (.slice a rs.length c) ∧ w'.ownsRow w.heap.size 46 1 (.slice a rs.length c) rs.length vs ∧ RowsAt lo w vs rs ∧ Ext w w'
theorem c_eachS (lo pb ar : Nat) (rs : List (List ByteArray)) (w : World) (h : RowsV w lo pb ar rs) (hn : rs.length ≤ 1000000) :
    Calls Tryz.prog 60 #[.pointer (some ⟨pb, 0, none⟩)] w (EachPost lo rs w) := by
  have IT := Lib.hid (c_itemsS lo pb ar rs w h hn)
  clear h hn
  go_enter Tryz.func60, Tryz.ntmps60
  go_wp2_with (first
    | (go_at_call 75; (with_reducible refine IT.out.mono ?_); rintro e w1 ⟨a7, c7, vs, rfl, r7, h7, e7⟩)
    | (go_at_call 31; (with_reducible refine (c_values _ _ _ _).mono ?_); rintro e w2 ⟨rfl, hw2⟩; obtain rfl := hw2.symm))
  go_returns
  exact ⟨w1.heap.size, a7, c7, vs, rfl, e7.size, by simp, (Boxed.new w1 _ _).cell, up_ext r7 (ext_alloc (Below.refl _ _) _), h7, ext_alloc e7 _⟩
/-- What has come when k rounds are over: the first k numbers below N. -/
def numsTo (N k : Nat) : List { j : Nat // j < N } := (List.range k).filterMap fun j => if h : j < N then some ⟨j, h⟩ else none
theorem numsTo_succ {N k : Nat} (h : k < N) : numsTo N (k + 1) = numsTo N k ++ [⟨k, h⟩] := by
  unfold numsTo
  rw [List.range_succ, List.filterMap_append]
  simp [h]
theorem numsTo_length {N k : Nat} (h : k ≤ N) : (numsTo N k).length = k := by
  induction k with
  | zero => rfl
  | succ k ih => rw [numsTo_succ (by omega), List.length_append, ih (by omega)]; rfl
set_option maxRecDepth 100000 in
set_option maxHeartbeats 2000000 in
/-- The closure of slices.Values at rows, for every loop body that keeps the block of the slice's cells. -/
theorem values1_in (F : Fence) (n : Nat) (h7 : F.fn 59) (hro : F.round = none) (hn : 1 ≤ n) (l bs g N cap : Nat) (vs : List Value) (hl : vs.length = N) (h1v : ∀ v ∈ vs, ∃ a m c, v = .slice a m c) (hN : N ≤ 1000000) (S : Nat → Prop) (hS : ¬ S g) (J Jx : List { j : Nat // j < N } → World → Prop)
    (hY : ∀ pre x W, J pre W → pre.length < N → YieldAt F (n - 1) Tryz.prog l #[vs[x.1]?.getD undef] W fun e W' =>
      (e = .returned (.bool true) ∧ J (pre ++ [x]) W' ∧ ButS S W W') ∨ (e = .returned (.bool false) ∧ Jx (pre ++ [x]) W'))
    (W : World) (hBs : W.cell? ⟨bs, 0, none⟩ = some (.slice (some ⟨g, 0, none⟩) N cap)) (hc : ∀ j v, vs[j]? = some v → W.cell? ⟨g, j, none⟩ = some v) (h0 : J [] W) :
    CallsIn F n Tryz.prog 59 #[.func (.yield l) #[] #[], .pointer (some ⟨bs, 0, none⟩)] W fun e W' => (∃ v, e = .returned v) ∧
      ((∃ ys, ys = numsTo N N ∧ J ys W') ∨ (∃ pre, (∃ k, k ≤ N ∧ pre = numsTo N k) ∧ Jx pre W')) := by
  refine callsIn_of_wp Tryz.func59 rfl h7 ?_ hro
  simp only [Tryz.ntmps59, List.size_toArray, List.length_cons, List.length_nil, Nat.reduceAdd, Nat.reduceSub, Array.replicate_succ, Array.replicate_zero, List.push_toArray, List.append_toArray, List.nil_append, List.cons_append]
  gi_wp2
  gi_loopw [7] (fun i wr => ∃ k : Nat, k ≤ N ∧ i = .int .i64 k ∧ J (numsTo N k) wr ∧ ButS S W wr)
    (fun i _ => N - (intOf i).toNat)
  case atStart => exact ⟨0, Nat.zero_le _, rfl, h0, ButS.refl _ _⟩
  case round =>
    obtain ⟨k, hk, rfl, hJs, hnx⟩ := hrel
    by_cases hlt : k < N
    · obtain ⟨v, hv⟩ : ∃ v, vs[k]? = some v := ⟨_, List.getElem?_eq_getElem (by omega)⟩
      obtain ⟨a7, m7, c7, rfl⟩ := h1v v (List.mem_of_getElem? hv)
      obtain ⟨fn, tmps, assign, body, hy, hR⟩ := hY _ ⟨k, hlt⟩ wr hJs (by rw [numsTo_length hk]; exact hlt)
      dsimp only at hy
      rw [hv] at hy
      simp only [Option.getD_some] at hy
      have hcx := hnx.cell hS (hc k _ hv)
      gi_wp2
      refine hR.mono ?_
      rintro e W3 (⟨rfl, hJ3, hk3⟩ | ⟨rfl, hJx3⟩)
      · gi_wp2
        go_roundw
        case rel => exact ⟨k + 1, by omega, by simp, by rw [numsTo_succ hlt]; exact hJ3, hnx.trans hk3⟩
        case measure => simp [intOf]; omega
      · gi_wp2
        refine bodyPost_ret (results_none rfl _ _ _) rfl ?_
        exact ⟨⟨_, rfl⟩, .inr ⟨_, ⟨k + 1, by omega, (numsTo_succ hlt).symm⟩, hJx3⟩⟩
    · obtain rfl : k = N := by omega
      gi_wp2
      go_end0
      exact ⟨⟨_, rfl⟩, .inl ⟨_, rfl, hJs⟩⟩
set_option maxRecDepth 100000 in
theorem values1_nil_in (F : Fence) (n : Nat) (h7 : F.fn 59) (hro : F.round = none) (l bs : Nat) {α : Type} (J : List α → World → Prop) (W : World) (hBs : W.cell? ⟨bs, 0, none⟩ = some (.slice none 0 0)) (h0 : J [] W) :
    CallsIn F n Tryz.prog 59 #[.func (.yield l) #[] #[], .pointer (some ⟨bs, 0, none⟩)] W fun e W' => (∃ v, e = .returned v) ∧ J [] W' := by
  refine callsIn_of_wp Tryz.func59 rfl h7 ?_ hro
  simp only [Tryz.ntmps59, List.size_toArray, List.length_cons, List.length_nil, Nat.reduceAdd, Nat.reduceSub, Array.replicate_succ, Array.replicate_zero, List.push_toArray, List.append_toArray, List.nil_append, List.cons_append]
  gi_wp2
  gi_loopw [7] (fun i wr => i = .int .i64 0 ∧ J [] wr) (fun _ _ => 0)
  case atStart => exact ⟨rfl, h0⟩
  case round =>
    obtain ⟨rfl, hJs⟩ := hrel
    gi_wp2
    go_end0
    exact ⟨⟨_, rfl⟩, hJs⟩
/-- slices.Values hands back what a loop may go over: all the slice's values in their order. -/
theorem values_stops (F : Fence) (n : Nat) (h7 : F.fn 59) (hro : F.round = none) (hn : 1 ≤ n) (bs base N cap : Nat) (a : Option Addr) (vs : List Value) (w : World) (hown : w.ownsRow base 46 1 (.slice a N cap) N vs) (h1v : ∀ v ∈ vs, ∃ a m c, v = .slice a m c) (hN : N ≤ 1000000) (S : Nat → Prop) (hS : ∀ b, (Value.slice a N cap).ownBlock = some b → ¬ S b) (hbs : bs < w.heap.size) (hc : w.cell? ⟨bs, 0, none⟩ = some (.slice a N cap)) :
    SeqStopsK F n Tryz.prog 59 #[.pointer (some ⟨bs, 0, none⟩)] (fun x : { j : Nat // j < N } => #[vs[x.1]?.getD undef]) (ButS S) (fun ys => ys = numsTo N N) (fun pre => ∃ k, k ≤ N ∧ pre = numsTo N k) N w := fun l J Jx W hW _ _ hY h0 => by
  have hc' := (hW.cell (p := ⟨bs, 0, none⟩) hbs).trans hc
  have hl : vs.length = N := by have := hown.1; omega
  rcases hown.2 with ⟨h1, h2⟩ | ⟨g, c', cur, h1, _⟩
  · cases h1
    exact (values1_nil_in F n h7 hro l bs J W hc' h0).mono fun e W' ⟨he, hj⟩ => ⟨he, .inl ⟨_, rfl, hj⟩⟩
  · cases h1
    refine values1_in F n h7 hro hn l bs g N cap vs hl h1v hN S (hS g rfl) J Jx hY W hc' (fun j v hj => ?_) h0
    have := hown.cells (g := g) rfl j v hj
    rw [Addr.add_lit, Nat.zero_add] at this
    exact (hW.cell (p := ⟨g, j, none⟩) (World.block_lt_of_cell? w ⟨g, j, none⟩ this)).trans this
end Go.Proofs.YtpgbenijjodoeaaGreat
namespace Go.Proofs.YtpgbenijjodoeaaGreat
open Go.ChangeShapes Go.WideShapes Go.ChangeAt Go.RowKit Go.Shelf
attribute [local go_sem] Oper.semAt_some
theorem own_keptN {W W' : World} {row : Option Nat} {base n size : Nat} {e : TypeId} {v : Value} {xs : List Value} (h : W.ownsRow base e size v n xs) (hg : W.grownBy W' row) (hr : ∀ r, row = some r → ∃ o : Obj, W.heap[r]? = some o ∧ o.isCells = false) : W'.ownsRow base e size v n xs := by
  refine h.kept hg ?_
  rcases h.2 with ⟨rfl, _⟩ | ⟨g, cap, cur, rfl, _, hgb, _⟩
  · exact .inl rfl
  · refine .inr fun e' => ?_
    obtain ⟨o, ho, hc⟩ := hr g (by simpa [Value.ownBlock] using e'.symm)
    rw [hgb] at ho; cases ho; cases hc
theorem RowsAt.keptN {W W' : World} {row : Option Nat} {lo : Nat} {vs : List Value} {rs : List (List ByteArray)} (h : RowsAt lo W vs rs) (hg : W.grownBy W' row) (hr : ∀ r, row = some r → ∃ o : Obj, W.heap[r]? = some o ∧ o.isCells = false) : RowsAt lo W' vs rs :=
  ⟨h.1, fun i r v h1 h2 => own_keptN (h.2 i r v h1 h2) hg hr⟩
theorem boxed_keptN {W W' : World} {row : Option Nat} {B : Nat} {t : TypeId} {v : Value} (h : Boxed W B t v) (hg : W.grownBy W' row) (hr : ∀ r, row = some r → ∃ o : Obj, W.heap[r]? = some o ∧ o.isCells = false) : Boxed W' B t v :=
  h.kept hg fun e => by
    obtain ⟨o, ho, hc⟩ := hr B e.symm
    rw [show W.heap[B]? = _ from h] at ho; cases ho; cases hc
/-- A list of rows of one's own, in a variable's box B. -/
def BoxRows (lo B : Nat) (rs : List (List ByteArray)) (W : World) : Prop := ∃ us a c, Boxed W B 64 (.slice a rs.length c) ∧ W.ownsRow lo 46 1 (.slice a rs.length c) rs.length us ∧ RowsAt lo W us rs
theorem BoxRows.keptN {W W' : World} {row : Option Nat} {lo B : Nat} {rs : List (List ByteArray)} (h : BoxRows lo B rs W) (hg : W.grownBy W' row) (hr : ∀ r, row = some r → ∃ o : Obj, W.heap[r]? = some o ∧ o.isCells = false) : BoxRows lo B rs W' := by
  obtain ⟨us, a, c, h1, h2, h3⟩ := h
  exact ⟨us, a, c, boxed_keptN h1 hg hr, own_keptN h2 hg hr, h3.keptN hg hr⟩
theorem ButS.putObj {S : Nat → Prop} (W : World) {l : Nat} (o : Obj) (h : S l) : ButS S W (W.putObj l o) := (ButS.refl S W).grown (grownBy_putObj' W l o) (fun b e => by cases e; exact .inl h)
/-- What the row's i-th is, by its number. -/
def nthRows (rs : List (List ByteArray)) {N : Nat} (pre : List { j : Nat // j < N }) : List (List ByteArray) := pre.map fun x => rs[x.1]?.getD []
theorem nthRows_to (rs : List (List ByteArray)) {k : Nat} (h : k ≤ rs.length) : nthRows rs (numsTo rs.length k) = rs.take k := by
  induction k with
  | zero => rfl
  | succ k ih =>
    have hk : rs[k]? = some rs[k] := List.getElem?_eq_getElem (by omega)
    rw [numsTo_succ (by omega), take_at hk, ← ih (by omega)]
    simp [nthRows, hk]
theorem nthRows_snoc (rs : List (List ByteArray)) {N : Nat} (pre : List { j : Nat // j < N }) (x : { j : Nat // j < N }) {r : List ByteArray} (h : rs[x.1]? = some r) : nthRows rs (pre ++ [x]) = nthRows rs pre ++ [r] := by simp [nthRows, h]
/-- append in a region that draws, in a round: one step. -/
theorem stepIn_append {F : Fence} {n : Nat} {P : Program} {ops : Array Oper} {o : Oper} {a : Act} {w : World} {K : Act → World → Prop} {Q : Exit → Act → World → Prop} {E : Prop}
    (hg : o.guard = none) (s x : Operand) (t : TypeId) (hop : o.op = Op.call { callee := Callee.builtin Builtin.append, args := #[s, x], argTypes := #[t, t] })
    (base : Nat) (e : TypeId) (i : TypeInfo) (z : Value) (size bytes : Nat) (h1 : P.underlying t = some (.slice e)) (h2 : P.info? e = some i) (h3 : i.zero = some z) (h4 : i.size = size) (h5 : i.bytes = bytes) (h6 : z.cells.size = size) (h7 : 0 < size)
    (v : Value) (k : Nat) (xs : List Value) (hs : a.eval s = v) (hown : w.ownsRow base e size v k xs) (ad : Addr) (m c : Nat) (news : List Value) (hx : a.eval x = .slice (some ad) m c) (hn : news.length = m * size)
    (hc : ∀ j u, news[j]? = some u → w.cell? (ad.add j) = some u) (h1c : ∀ u ∈ news, u.oneCell' = true) (b1 : k + m ≤ maxLen) (b2 : (k + m) * bytes ≤ 140737488355328) (b3 : base ≤ w.heap.size)
    (hK : ∀ v' w', w'.ownsRow base e size v' (k + m) (xs ++ news) → w.grownBy w' v.ownBlock → K (a.put o.dst v') w') :
    if Region.wanted o (yielded ops a.tmps) = true then Oper.wpIn F n P o a w K Q else E := by
  have hw : Region.wanted o (yielded ops a.tmps) = true := by simp [Region.wanted, hg]
  rw [if_pos hw]
  obtain ⟨v', w', hrun, r1, r2, r3⟩ := run_append_own (P := P) w base t o.type e i z size bytes h1 h2 h3 h4 h5 h6 h7 v k xs hown ad m c news hn hc h1c b1 b2 b3
  unfold Oper.wpIn
  refine ⟨?_, ?_⟩
  · simp [Oper.about, hop, resolve, Target.leads, Sem.run_pure]
  · rw [Oper.semAt_plain F _ _ (by rw [hop]; intro c hc'; cases hc')]
    simp [execOp, hop, resolve, invoke, builtin, hs, hx, hrun, Result.andThen]
    exact hK v' w' r1 r2
theorem KeepsOthers.ext {W w : World} (e : Ext W w) : KeepsOthers W w := ⟨e.size, fun k _ hk _ => (e.block k (Array.getElem?_eq_some_iff.1 hk).1).trans hk⟩
theorem boxed_ext {W w : World} {B : Nat} {t : TypeId} {v : Value} (h : Boxed W B t v) (e : Ext W w) : Boxed w B t v := (e.block B h.lt).trans h
theorem str_push {w7 w1 : World} {B l0 : Nat} {o : Obj} {v v' vB : Value} {n : Nat} {us : List Value} {lo m : Nat} {xs : List Value} (hh : w7.ownsRow l0 9 1 v m xs) (hrow : w7.ownsRow lo 46 1 vB n us) (hg : (w7.alloc o).grownBy w1 vB.ownBlock) (hb1 : Boxed w1 B 64 vB) : (w1.setCell ⟨B, 0, none⟩ v').ownsRow l0 9 1 v m xs := by
  have h1 := (hh.alloc o).kept hg (own_apart (hh.alloc o) (hrow.alloc o) (by decide))
  exact own_set_other h1 (.inr (hb1.not_row (by decide) h1).symm) v'
theorem rows_snoc {lo : Nat} {W : World} {us : List Value} {rs : List (List ByteArray)} (h : RowsAt lo W us rs) {u : Value} {r : List ByteArray} (hu : W.ownsRow lo 9 1 u r.length (r.map Value.string)) : RowsAt lo W (us ++ [u]) (rs ++ [r]) := by
  refine ⟨by simp [h.1], fun i x v hx hv => ?_⟩
  by_cases hi : i < rs.length
  · rw [List.getElem?_append_left hi] at hx
    rw [List.getElem?_append_left (by rw [h.1]; exact hi)] at hv
    exact h.2 i x v hx hv
  · have hl := (List.getElem?_eq_some_iff.1 hx).1
    rw [List.length_append, List.length_singleton] at hl
    obtain rfl : i = rs.length := by omega
    rw [List.getElem?_append_right (Nat.le_refl _), Nat.sub_self] at hx
    rw [← h.1, List.getElem?_append_right (Nat.le_refl _), Nat.sub_self] at hv
    cases hx
    cases hv
    exact hu
/-- One row more in the variable's box. -/
theorem BoxRows.push {w7 w1 : World} {lo B n0 : Nat} {rs : List (List ByteArray)} {r : List ByteArray} {a : Option Addr} {c : Nat} {us : List Value} {u v' : Value} {o : Obj} (hb : Boxed w7 B 64 (.slice a rs.length c)) (hrow : w7.ownsRow lo 46 1 (.slice a rs.length c) rs.length us) (hrs : RowsAt lo w7 us rs) (hu : w7.ownsRow lo 9 1 u r.length (r.map Value.string)) (hown : w1.ownsRow lo 46 1 v' (rs.length + 1) (us ++ [u])) (hg : (w7.alloc o).grownBy w1 (Value.slice a rs.length c).ownBlock) (hn0 : n0 ≤ lo) (hB : n0 ≤ B) (hlo : lo ≤ w7.heap.size) :
    Boxed w1 B 64 (.slice a rs.length c) ∧ BoxRows lo B (rs ++ [r]) (w1.setCell ⟨B, 0, none⟩ v') ∧ KeepsOthers w7 (w1.setCell ⟨B, 0, none⟩ v') ∧ Below n0 w7 (w1.setCell ⟨B, 0, none⟩ v') ∧ ButS (fun b => b = B ∨ lo ≤ b) w7 (w1.setCell ⟨B, 0, none⟩ v') ∧ (∀ l0 vs qs, RowsAt l0 w7 vs qs → RowsAt l0 (w1.setCell ⟨B, 0, none⟩ v') vs qs) := by
  obtain ⟨q1, q2, q3, q4, q5⟩ := hb.appended (n₀ := n0) (by decide) (own_base hrow hn0) (Nat.le_trans hn0 hlo) hB (own_base hown hn0) hg
  obtain ⟨g, c', rfl⟩ := ownsRow_succ hown
  have keepR : ∀ l0 vs qs, RowsAt l0 w7 vs qs → RowsAt l0 (w1.setCell ⟨B, 0, none⟩ (.slice (some ⟨g, 0, none⟩) (rs.length + 1) c')) vs qs := fun l0 vs qs hh => ⟨hh.1, fun i x v hx hv => str_push (hh.2 i x v hx hv) hrow hg q1⟩
  refine ⟨q1, ⟨us ++ [u], some ⟨g, 0, none⟩, c', ?_, ?_, ?_⟩, q4, q5, (((ButS.refl _ w7).alloc o).grown hg (fun b e => .inl (.inr (hrow.lt b e).1))).set (.inl (.inl rfl)) _ _, keepR⟩
  · rw [List.length_append, List.length_singleton]
    exact q2
  · rw [List.length_append, List.length_singleton]
    exact own_set_other hown (.inr (q1.not_row (by decide) hown).symm) _
  · exact rows_snoc (keepR _ _ _ hrs) (str_push hu hrow hg q1)
def AllPost (rs : List (List ByteArray)) (w : World) (e : Ending) (w' : World) : Prop := ∃ a c us, e = .returned (.slice a rs.length c) ∧ w'.ownsRow w.heap.size 46 1 (.slice a rs.length c) rs.length us ∧ RowsAt w.heap.size w' us rs ∧ Ext w w'
set_option maxRecDepth 100000 in
set_option maxHeartbeats 4000000 in
theorem c_all (lo pb ar : Nat) (rs : List (List ByteArray)) (w : World) (h : RowsV w lo pb ar rs) (hn : rs.length ≤ 1000000) (hr : ∀ r ∈ rs, r.length ≤ 1000000) :
    Calls Tryz.prog 32 #[.pointer (some ⟨pb, 0, none⟩)] w (AllPost rs w) := by
  obtain ⟨i0, hi, hz0, hz1, hz2⟩ := info_parts info_row
  refine (callsIn_wide (n := 5)).1 ?_
  refine callsIn_of_wp_marks Tryz.func32 rfl trivial ?_
  simp only [Tryz.ntmps32, List.size_toArray, List.length_cons, List.length_nil, Nat.reduceAdd, Nat.reduceSub, Array.replicate_succ, Array.replicate_zero, List.push_toArray, List.append_toArray, List.nil_append, List.cons_append]
  have H1 := Lib.hid (h.ext (ext_alloc (Below.refl _ w) (.cells #[.slice none 0 0] 64)))
  gi_wp2_with (first
    | (refine ⟨trivial, ?_⟩; gi_at_call 33; refine (callsIn_wide.2 (c_set lo pb ar rs _ H1.out)).mono ?_; rintro e w1 ⟨rfl, hw1⟩; obtain rfl := hw1.symm)
    | (refine ⟨trivial, ?_⟩; gi_at_call 60; refine (callsIn_wide.2 (c_eachS lo pb ar rs _ H1.out hn)).mono ?_; rintro e w2 ⟨bs, a2, c2, vs, rfl, hb1, hb2, hb3, hb4, hb5, hb6⟩))
  have sz0 : (w.alloc (.cells #[.slice none 0 0] 64)).heap.size = w.heap.size + 1 := by simp
  have hbx := boxed_ext (Boxed.new w 64 (.slice none 0 0)) hb6
  have sz2 : w.heap.size + 1 ≤ w2.heap.size := by have := hb6.size; omega
  have hE2 : Ext w w2 := ext_trans (ext_alloc (Below.refl _ w) _) hb6
  have h1v : ∀ v ∈ vs, ∃ a m c, v = Value.slice a m c := fun v hv => by
    obtain ⟨k, hk⟩ := List.mem_iff_getElem?.1 hv
    have hkl := (List.getElem?_eq_some_iff.1 hk).1
    obtain ⟨r, hrr⟩ : ∃ r, rs[k]? = some r := ⟨_, List.getElem?_eq_getElem (by have := hb5.1; omega)⟩
    obtain ⟨a, c, e, _⟩ := own_form (hb5.2 k r v hrr hk)
    exact ⟨a, _, c, e⟩
  refine wpIn_rangeFunc_ownG (F := Fence.wide) rfl (by omega) (gf := 59) (lb := #[.pointer (some ⟨bs, 0, none⟩)]) rfl trivial (enters_of Tryz.func59 (by kernel_rfl) rfl)
    (values_stops Fence.wide 4 trivial rfl (by omega) bs _ rs.length c2 a2 vs w2 hb4 h1v hn (fun b => b = w.heap.size ∨ w2.heap.size ≤ b) (fun b e => by have := hb4.lt b e; omega) hb2 hb3) (fun h k => h.trans k) (fun W l o o' hl _ _ _ => ButS.putObj W o' (.inr hl)) (Below.refl _ _) (fun _ => rfl)
    (fun pre W => BoxRows w2.heap.size w.heap.size (nthRows rs pre) W ∧ RowsAt lo W vs rs ∧ w2.heap.size ≤ W.heap.size ∧ Below w.heap.size w W)
    (fun _ _ _ => False)
    ?own
    (fun _ _ _ _ _ hs _ _ => hs)
    ⟨⟨[], none, 0, hbx, World.ownsRow_nil _ _ _ _, rfl, fun i r v h => by simp [nthRows] at h⟩, hb5.ext hb6, Nat.le_refl _, hE2⟩
    (fun x => { tmps := #[.pointer (some ⟨pb, 0, none⟩), undef, .slice none 0 0, .pointer (some ⟨w.heap.size, 0, none⟩), vs[x.1]?.getD undef, .pointer (some ⟨pb, 0, none⟩), .pointer (some ⟨pb, 0, none⟩), .func (.func 59) #[] #[.pointer (some ⟨bs, 0, none⟩)], vs[x.1]?.getD undef, undef, undef, undef, undef, undef, undef], defers := [] }) ?assign ?body ?done ?stop
  case own =>
    refine OwnFrom.and (Own.from (fun s A B row hs hg hr => hs.keptN hg hr) _) (OwnFrom.and (Own.from (fun s A B row hs hg hr => hs.keptN hg hr) _) (OwnFrom.and (fun s A B row hs hg hr => Nat.le_trans hs hg.size) (ownFrom_below (Nat.le_refl _) (by omega))))
  case assign =>
    intro l x W K hK
    gi_wp2
    exact hK
  case body =>
    rintro l pre x W ⟨⟨us, a9, c9, bx9, row9, at9⟩, hvs, hsz, hE⟩ hlt
    obtain ⟨r, hr1⟩ : ∃ r, rs[x.1]? = some r := ⟨_, List.getElem?_eq_getElem x.2⟩
    obtain ⟨v, hv1⟩ : ∃ v, vs[x.1]? = some v := ⟨_, List.getElem?_eq_getElem (by rw [hvs.1]; exact x.2)⟩
    have hrl := hr r (List.mem_of_getElem? hr1)
    have ho1 := hvs.2 _ r v hr1 hv1
    obtain ⟨a7, c7, rfl, _⟩ := own_form ho1
    have hpl : (nthRows rs pre).length = pre.length := by simp [nthRows]
    have hv2 : vs[x.1]?.getD undef = .slice a7 r.length c7 := by rw [hv1]; rfl
    rw [hv2]
    obtain ⟨qs, hqs⟩ : ∃ qs, nthRows rs pre = qs := ⟨_, rfl⟩
    have HQS : Hid (nthRows rs (pre ++ [x]) = qs ++ [r]) := by show _ = _; rw [nthRows_snoc rs pre x hr1, hqs]
    rw [hqs] at bx9 row9 at9 hpl
    have CL := Lib.hid (c_cloneS r a7 r.length c7 W.drew (own_strs (ho1.drew) (own_len ho1).1) (by omega) (cap_of_own ho1).2)
    have hc9 := bx9.cell
    have hBW := bx9.lt
    have VS := Lib.hid hvs
    have hql : qs.length ≤ 1000000 := by omega
    clear hv2 hqs hvs hpl
    gi_wp2
    refine wpIn_region_any (by kernel_rfl) ?_
    change wpAnyIn _ _ _ _ _ _ _ _ _ (World.drew _)
    refine wpAnyIn_ready (rs := [0, 1]) (by kernel_rfl) (by simp) ?_
    refine (AllReadyIn.cons rfl (fun K hK => ?_) (AllReadyIn.cons rfl (fun K hK => ?_) AllReadyIn.nil))
    focus
      go_simp
      refine hK _ _ ?_
      clear hK K
      refine wpAnyIn_ready (rs := [1]) (by kernel_rfl) (by simp) ?_
      refine (AllReadyIn.cons rfl (fun K hK => ?_) AllReadyIn.nil)
      focus
        go_simp
        refine hK _ _ ?_
        clear hK K
        refine wpAnyIn_ready (rs := [2]) (by kernel_rfl) (by simp) ?_
        refine (AllReadyIn.cons rfl (fun K hK => ?_) AllReadyIn.nil)
        focus
          go_simp
          gi_wp2_with (refine ⟨trivial, ?_⟩; gi_at_call 58; refine (CallsIn.inRound l (callsIn_wide.2 CL.out)).mono ?_; rintro e w7 ⟨a7', c7', rfl, q7, _, e7⟩; have hc7 := keep e7 (show W.drew.cell? ⟨w.heap.size, 0, none⟩ = _ from hc9); have hc8 := fun o => keep (ext_alloc (Below.refl _ w7) o) hc7)
          refine wpAnyIn_ready (rs := [3]) (by kernel_rfl) (by simp) ?_
          refine (AllReadyIn.cons rfl (fun K hK => ?_) AllReadyIn.nil)
          focus
            go_simp
            refine hK _ _ ?_
            clear hK K
    rotate_left
    focus
      go_simp
      refine hK _ _ ?_
      clear hK K
      refine wpAnyIn_ready (rs := [0, 2]) (by kernel_rfl) (by simp) ?_
      refine (AllReadyIn.cons rfl (fun K hK => ?_) (AllReadyIn.cons rfl (fun K hK => ?_) AllReadyIn.nil))
      focus
        go_simp
        refine hK _ _ ?_
        clear hK K
        refine wpAnyIn_ready (rs := [2]) (by kernel_rfl) (by simp) ?_
        refine (AllReadyIn.cons rfl (fun K hK => ?_) AllReadyIn.nil)
        focus
          go_simp
          gi_wp2_with (refine ⟨trivial, ?_⟩; gi_at_call 58; refine (CallsIn.inRound l (callsIn_wide.2 CL.out)).mono ?_; rintro e w7 ⟨a7', c7', rfl, q7, _, e7⟩; have hc7 := keep e7 (show W.drew.cell? ⟨w.heap.size, 0, none⟩ = _ from hc9); have hc8 := fun o => keep (ext_alloc (Below.refl _ w7) o) hc7)
          refine wpAnyIn_ready (rs := [3]) (by kernel_rfl) (by simp) ?_
          refine (AllReadyIn.cons rfl (fun K hK => ?_) AllReadyIn.nil)
          focus
            go_simp
            refine hK _ _ ?_
            clear hK K
      rotate_left
      focus
        go_simp
        gi_wp2_with (refine ⟨trivial, ?_⟩; gi_at_call 58; refine (CallsIn.inRound l (callsIn_wide.2 CL.out)).mono ?_; rintro e w7 ⟨a7', c7', rfl, q7, _, e7⟩; have hc7 := keep e7 (show W.drew.cell? ⟨w.heap.size, 0, none⟩ = _ from hc9); have hc8 := fun o => keep (ext_alloc (Below.refl _ w7) o) hc7)
        refine wpAnyIn_ready (rs := [0, 3]) (by kernel_rfl) (by simp) ?_
        refine (AllReadyIn.cons rfl (fun K hK => ?_) (AllReadyIn.cons rfl (fun K hK => ?_) AllReadyIn.nil))
        focus
          go_simp
          refine hK _ _ ?_
          clear hK K
          refine wpAnyIn_ready (rs := [3]) (by kernel_rfl) (by simp) ?_
          refine (AllReadyIn.cons rfl (fun K hK => ?_) AllReadyIn.nil)
          focus
            go_simp
            refine hK _ _ ?_
            clear hK K
        rotate_left
        focus
          go_simp
          refine hK _ _ ?_
          clear hK K
          refine wpAnyIn_ready (rs := [0]) (by kernel_rfl) (by simp) ?_
          refine (AllReadyIn.cons rfl (fun K hK => ?_) AllReadyIn.nil)
          focus
            go_simp
            refine hK _ _ ?_
            clear hK K
    all_goals
      have bxW := boxed_ext (boxed_ext bx9 (ext_drew (Below.refl _ W))) e7
      have rowW := up_ext (up_ext row9 (ext_drew (Below.refl _ W))) e7
      have atW := (at9.ext (ext_drew (Below.refl _ W))).ext e7
      refine wpAnyIn_ready (rs := [4]) (by kernel_rfl) (by simp) ?_
      refine AllReadyIn.cons rfl (fun K hK => ?_) AllReadyIn.nil
      refine stepIn_append rfl _ _ 64 rfl w2.heap.size 46 i0 (.slice none 0 0) 1 24 Tryz.underlying64 hi hz0 hz1 hz2 rfl (by decide) (.slice a9 qs.length c9) qs.length us rfl (rowW.alloc _) ⟨w7.heap.size, 0, none⟩ 1 1 [.slice a7' r.length c7'] rfl rfl (cell_one_new _ _ _) (by simp [Value.oneCell']) (by unfold maxLen; omega) (by omega) (by have := e7.size; simp at this ⊢; omega) ?_
      intro v' w1 hown' hgrow
      obtain ⟨g', cap', rfl⟩ := ownsRow_succ hown'
      refine hK _ _ ?_
      clear hK K
      obtain ⟨p1, p2, p3, p4, p5, p6⟩ := BoxRows.push (n0 := w.heap.size) bxW rowW atW (own_base q7 (by simpa using hsz)) hown' hgrow (by omega) (Nat.le_refl _) (by have := e7.size; simp at this; omega)
      have hc1 := p1.cell
      have hf1 := p1.frozen
      refine wpAnyIn_ready (rs := [5]) (by kernel_rfl) (by simp) ?_
      refine AllReadyIn.cons rfl (fun K hK => ?_) AllReadyIn.nil
      go_simp
      refine hK _ _ ?_
      clear hK K
      refine wpAnyIn_done (by kernel_rfl) ?_ _
      have eD : Ext W w7 := ext_trans (ext_drew (Below.refl _ W)) e7
      gi_wp2
      exact ⟨((KeepsOthers.ext eD).trans p3).from _, ((ButS.refl _ W).ext eD).trans p5, by rw [HQS.out]; exact p2, p6 _ _ _ (VS.out.ext eD), Nat.le_trans hsz (Nat.le_trans eD.size p5.size), hE.trans ((eD.mono (by have := hE.size; omega)).trans p4)⟩
  case done =>
    rintro D ys W hD rfl ⟨⟨us, a9, c9, bx9, row9, at9⟩, hvs, hsz, hE⟩ hK
    rw [nthRows_to rs (Nat.le_refl _), List.take_length] at bx9 row9 at9
    have hc9 := bx9.cell
    gi_wp2
    refine ⟨by simp, .inl ⟨_, _, rfl, run_takeDeferred hK, ?_⟩⟩
    have hg := grownBy_putObj' W D (.deferred none)
    have hr : ∀ r, some D = some r → ∃ o : Obj, W.heap[r]? = some o ∧ o.isCells = false := fun r e => by cases e; exact ⟨_, hK, rfl⟩
    have at10 := at9.keptN hg hr
    exact ⟨_, results_tmp rfl _ _ _, a9, c9, us, rfl, own_base (own_keptN row9 hg hr) (by omega), ⟨at10.1, fun i r v h1 h2 => own_base (at10.2 i r v h1 h2) (by omega)⟩, hE.trans (belowK_b (w := w) (Nat.le_refl _) W D _ _ (by omega) hK rfl rfl)⟩
  case stop =>
    rintro D c pre W _ _ h _
    exact h.elim
end Go.Proofs.YtpgbenijjodoeaaGreat
namespace Go.Proofs.YtpgbenijjodoeaaGreat
open Go.ChangeShapes Go.WideShapes Go.ChangeAt Go.RowKit
theorem c_equal (xs ys : List ByteArray) (aa : Option Addr) (n cap : Nat) (ab : Option Addr) (m cb : Nat) (w : World) (ha : StrsAt w aa n xs) (hb : StrsAt w ab m ys) :
    Calls Tryz.prog 136 #[.slice aa n cap, .slice ab m cb] w fun e w' => e = .returned (.bool (decide (xs = ys))) ∧ ∃ q, w' = w.drewN q := by
  have HA := Lib.hid ha
  have HB := Lib.hid hb
  have HL := Lib.hid ha.2.1
  have HM := Lib.hid hb.2.1
  have hn := ha.1
  clear ha hb
  have hn2 : n ≤ 9223372036854775807 := hn
  clear hn
  obtain ⟨b, eb⟩ : ∃ b, decide (n = m) = b := ⟨_, rfl⟩
  have EB := Lib.hid eb
  cases b with
  | false =>
    have hne : n ≠ m := by simpa using eb
    go_enter Tryz.func136, Tryz.ntmps136
    go_wp2
    go_returns
    refine ⟨ret_bool ?_, 0, rfl⟩
    symm
    simp only [decide_eq_false_iff_not]
    rintro rfl
    exact hne (HL.out.symm.trans HM.out)
  | true =>
    obtain rfl : n = m := by simpa using eb
    clear eb
    go_enter Tryz.func136, Tryz.ntmps136
    go_wp2
    go_loopw [13] (fun i wj => ∃ k, k ≤ n ∧ i = .int .i64 (k : Int) ∧ (∃ q, wj = w.drewN q) ∧ xs.take k = ys.take k) (fun i _ => n - (intOf i).toNat)
    case atStart => exact ⟨0, by omega, rfl, ⟨0, rfl⟩, rfl⟩
    case round =>
      obtain ⟨k, hk, rfl, ⟨q0, hq0⟩, hq⟩ := hrel
      have hw : Ext w wr := by rw [hq0]; exact ext_drewN (Below.refl _ _) _
      have Q0 := Lib.hid hq0
      clear hq0
      have HQ := Lib.hid hq
      clear hq
      by_cases hlt : k < n
      · obtain ⟨x, b1, o1, hx, rfl, h1⟩ := (HA.out.keep hw).2.at hlt
        obtain ⟨y, b2, o2, hy, rfl, h2⟩ := (HB.out.keep hw).2.at hlt
        have HX := Lib.hid hx
        have HY := Lib.hid hy
        have g1 : wr.cell? ⟨b1, o1 + k, none⟩ = some (.string x) := by simpa [strAt] using h1
        have g2 : wr.cell? ⟨b2, o2 + k, none⟩ = some (.string y) := by simpa [strAt] using h2
        clear hx hy h1 h2
        obtain ⟨q, eq⟩ : ∃ b, (x.toList == y.toList) = b := ⟨_, rfl⟩
        have EQ := Lib.hid ((beq_bytes x y).symm.trans eq)
        cases q with
        | false =>
          go_wp2
          go_quiet (fail)
          go_wp2
          go_ret
          refine ⟨ret_bool ?_, _, by rw [Q0.out, World.drewN_drewN]⟩
          symm
          simp only [decide_eq_false_iff_not]
          rintro rfl
          have e := HX.out.symm.trans HY.out
          cases e
          have := EQ.out
          simp at this
        | true =>
          go_wp2
          go_quiet (fail)
          go_wp2
          go_roundw
          case rel => exact ⟨k + 1, by omega, by go_num, ⟨_, by rw [Q0.out, World.drewN_drewN]⟩, take_eq_succ HX.out HY.out HQ.out (by simpa using EQ.out)⟩
          case measure => simp [intOf]; omega
      · go_wp2
        go_ret
        refine ⟨ret_bool ?_, _, Q0.out⟩
        symm
        have h := HQ.out
        rw [List.take_of_length_le (by have := HL.out; omega), List.take_of_length_le (by have := HM.out; omega)] at h
        simpa using h
theorem c_eqF (xs ys : List ByteArray) (aa : Option Addr) (n cap : Nat) (ab : Option Addr) (m cb : Nat) (w : World) (ha : StrsAt w aa n xs) (hb : StrsAt w ab m ys) :
    Calls Tryz.prog 135 #[.slice aa n cap, .slice ab m cb] w fun e w' => e = .returned (.bool (decide (xs = ys))) ∧ ∃ q, w' = w.drewN q := by
  have C := Lib.hid (c_equal xs ys aa n cap ab m cb w ha hb)
  clear ha hb
  generalize decide (xs = ys) = b at C ⊢
  go_enter Tryz.func135, Tryz.ntmps135
  go_wp2_with (go_at_call 136; (with_reducible refine C.out.mono ?_); rintro e w1 ⟨rfl, q, hq⟩; obtain rfl := hq.symm)
  go_returns
  exact ⟨rfl, q, rfl⟩
theorem c_cmpF (xs ys : List ByteArray) (aa : Option Addr) (n cap : Nat) (ab : Option Addr) (m cb : Nat) (w : World) (ha : StrsAt w aa n xs) (hb : StrsAt w ab m ys) :
    Calls Tryz.prog 133 #[.slice aa n cap, .slice ab m cb] w fun e w' => e = .returned (.int .i64 (cmpRow xs ys)) ∧ w' = w := by
  have C := Lib.hid (c_sCompare xs ys aa n cap ab m cb w ha hb)
  clear ha hb
  generalize cmpRow xs ys = b at C ⊢
  go_enter Tryz.func133, Tryz.ntmps133
  go_wp2_with (go_at_call 68; (with_reducible refine C.out.mono ?_); rintro e w1 ⟨rfl, hw1⟩; obtain rfl := hw1.symm)
  go_returns
  exact ⟨rfl, rfl⟩
end Go.Proofs.YtpgbenijjodoeaaGreat
namespace Go.Proofs.YtpgbenijjodoeaaGreat
open Go.ChangeShapes Go.WideShapes Go.ChangeAt Go.RowKit
/-- The list of rows in the order of rows (alikes may stand side by side). -/
def Sorted (ws : List (List ByteArray)) : Prop := ws.Pairwise fun x y => ¬ cmpRow y x < 0
/-- The list without alikes side by side. -/
def cmpt (l : List (List ByteArray)) : List (List ByteArray) := l.foldl (fun acc x => if acc.getLast? = some x then acc else acc ++ [x]) []
theorem cmpt_snoc (l : List (List ByteArray)) (x : List ByteArray) : cmpt (l ++ [x]) = if (cmpt l).getLast? = some x then cmpt l else cmpt l ++ [x] := by
  unfold cmpt
  rw [List.foldl_append]
  rfl
theorem snoc_ind {α : Type} {P : List α → Prop} (h0 : P []) (h1 : ∀ l x, P l → P (l ++ [x])) (l : List α) : P l := by
  have : ∀ n (l : List α), l.length = n → P l := by
    intro n
    induction n with
    | zero => intro l hl; rw [List.eq_nil_of_length_eq_zero hl]; exact h0
    | succ n ih =>
      intro l hl
      have hne : l ≠ [] := by intro e; rw [e] at hl; simp at hl
      rw [← List.dropLast_concat_getLast hne]
      exact h1 _ _ (ih _ (by rw [List.length_dropLast]; omega))
  exact this _ l rfl
theorem cmpt_last (l : List (List ByteArray)) : (cmpt l).getLast? = l.getLast? := by
  refine snoc_ind (P := fun l => (cmpt l).getLast? = l.getLast?) rfl (fun l x _ => ?_) l
  rw [cmpt_snoc]
  split
  · rename_i h
    rw [h]
    simp
  · simp
theorem cmpt_len (l : List (List ByteArray)) : (cmpt l).length ≤ l.length := by
  refine snoc_ind (P := fun l => (cmpt l).length ≤ l.length) (Nat.le_refl _) (fun l x ih => ?_) l
  rw [cmpt_snoc]
  split <;> simp <;> omega
theorem cmpt_spec (l : List (List ByteArray)) : Sorted l → Rising (cmpt l) ∧ ∀ x, x ∈ cmpt l ↔ x ∈ l := by
  refine snoc_ind (P := fun l => Sorted l → Rising (cmpt l) ∧ ∀ x, x ∈ cmpt l ↔ x ∈ l) (fun _ => ⟨List.Pairwise.nil, fun _ => Iff.rfl⟩) (fun l x ih hs => ?_) l
  obtain ⟨s1, _, s2⟩ := List.pairwise_append.1 hs
  obtain ⟨r1, r2⟩ := ih s1
  have hx : ∀ y ∈ l, ¬ cmpRow x y < 0 := fun y hy => s2 y hy x (List.mem_singleton.2 rfl)
  rw [cmpt_snoc]
  split
  · rename_i h
    refine ⟨r1, fun y => ?_⟩
    rw [r2, List.mem_append, List.mem_singleton]
    refine ⟨.inl, ?_⟩
    rintro (h1 | rfl)
    · exact h1
    · exact (r2 y).1 (List.mem_of_getLast? h)
  · rename_i h
    refine ⟨List.pairwise_append.2 ⟨r1, List.pairwise_singleton _ _, fun y hy z hz => ?_⟩, fun y => by rw [List.mem_append, List.mem_append, r2]⟩
    rw [List.mem_singleton] at hz
    subst hz
    have hge := hx y ((r2 y).1 hy)
    have hsw := cmpRow_swap y z
    by_cases h0 : cmpRow y z = 0
    · exfalso
      have e := (cmpRow_zero y z).1 h0
      subst e
      have hne : cmpt l ≠ [] := fun e => by rw [e] at hy; cases hy
      have hl := List.getLast?_eq_some_getLast hne
      have hmem := List.getLast_mem hne
      have hxl := hx _ ((r2 _).1 hmem)
      rw [← List.dropLast_concat_getLast hne] at hy r1
      rcases List.mem_append.1 hy with h1 | h1
      · exact hxl ((List.pairwise_append.1 r1).2.2 y h1 _ (List.mem_singleton.2 rfl))
      · rw [List.mem_singleton] at h1
        rw [hl, ← h1] at h
        exact h rfl
    · omega
end Go.Proofs.YtpgbenijjodoeaaGreat
