/- The walks of slices.Clone at rows, of a set's Items and Each, of slices.Values at rows; its closure's contract for loops over it. -/
import Derived.Test.YthjpfplebbnbpaaGreatAddR
import Derived.RangeFuncNested
import Derived.RangeFuncBound
import Derived.RangeFuncCalls
import Derived.RangeFuncLeaves
import Derived.RangeFuncBox
import Derived.Shelf.Abstract
import Derived.Shelf.RegionOpen
import Derived.OwnWalkIn
import Derived.TacticsInMore
import Derived.LoopNIn
import Derived.LoopIn
import Derived.Maps.AppendAt
namespace Go.Proofs.YthjpfplebbnbpaaGreat
open Go.ChangeShapes Go.WideShapes Go.ChangeAt Go.RowKit Go.Shelf
attribute [local go_sem] Oper.semAt_some
theorem nil_eqR (w : World) : (binOp .eql 22 (.slice none 0 0) (.slice none 0 0)).run Tryz.prog w = .ok (.bool true) w := by kernel_rfl
theorem some_eqR (ad : Addr) (n cap : Nat) (w : World) : (binOp .eql 22 (.slice (some ad) n cap) (.slice none 0 0)).run Tryz.prog w = .ok (.bool false) w := by kernel_rfl
theorem c_cloneR (vs : List Value) (a : Option Addr) (n cap : Nat) (base : Nat) (w : World) (h : w.ownsRow base 46 1 (.slice a n cap) n vs) (h1 : ∀ v ∈ vs, v.oneCell' = true) (hn : n ≤ 1000000) :
    Calls Tryz.prog 100 #[.slice a n cap] w fun e w' => ∃ a' c', e = .returned (.slice a' n c') ∧ w'.ownsRow w.heap.size 46 1 (.slice a' n c') n vs ∧ Ext w w' := by
  cases a with
  | none =>
    obtain ⟨rfl, rfl⟩ := (cap_of_own h).2 rfl
    have hx : vs = [] := List.eq_nil_of_length_eq_zero (by have := h.1; omega)
    subst hx
    clear h h1
    have eqn := nil_eqR
    go_enter Tryz.func100, Tryz.ntmps100
    go_wp2
    go_returns
    exact ⟨none, 0, rfl, World.ownsRow_nil _ _ _ _, Below.refl _ _⟩
  | some ad =>
    obtain ⟨i0, hi, hz0, hz1, hz2⟩ := info_parts info_row
    have IL := Lib.hid h.1
    have IC := Lib.hid (own_src (h.alloc (.cells #[] 46)))
    have IO := Lib.hid h1
    have H3 : Hid (0 + n ≤ maxLen) := by show _ ≤ _; unfold maxLen; omega
    have H4 : Hid ((0 + n) * 24 ≤ 140737488355328) := by show _ ≤ _; omega
    have hown0 : (w.alloc (.cells #[] 46)).ownsRow w.heap.size 46 1 (.slice (some ⟨w.heap.size, 0, none⟩) 0 0) 0 [] := World.ownsRow_lit w #[] 0 (Nat.le_refl _) (by unfold maxLen; omega) rfl
    have HO := Lib.hid hown0
    have eqn := some_eqR ad n cap
    clear h h1 hown0
    go_enter Tryz.func100, Tryz.ntmps100
    go_wp2_with (at_builtin; go_loud (refine wpList_append_any rfl _ _ 22 rfl w.heap.size 46 i0 (.slice none 0 0) 1 24 Tryz.underlying22 hi hz0 hz1 hz2 rfl (by decide) _ _ _ rfl HO.out (some ad) n cap vs rfl (by intro h; cases h) IL.out IC.out IO.out H3.out H4.out (size_alloc_le (Nat.le_refl _)) ?_); intro v1 w1 own1 g1)
    obtain ⟨a1, c1, rfl, _⟩ := own_form own1
    have hb := ext_ownB (ext_alloc (Below.refl _ w : Ext w w) _) g1 (by intro g e; cases e; exact Nat.le_refl _)
    go_returns
    rw [Nat.zero_add, List.nil_append] at own1
    exact ⟨a1, c1, by rw [Nat.zero_add]; rfl, own1, hb⟩
/-- A slice of rows at hand: the values are the cells of a row of the call's own; each is a row of its own. -/
def RowsAt (lo : Nat) (w : World) (vs : List Value) (rs : List (List ByteArray)) : Prop := vs.length = rs.length ∧ ∀ (i : Nat) (r : List ByteArray) (v : Value), rs[i]? = some r → vs[i]? = some v → w.ownsRow lo 9 1 v r.length (r.map Value.string)
theorem RowsAt.one {lo : Nat} {w : World} {vs : List Value} {rs : List (List ByteArray)} (h : RowsAt lo w vs rs) : ∀ v ∈ vs, v.oneCell' = true := fun v hv => by
  obtain ⟨k, hk⟩ := List.mem_iff_getElem?.1 hv
  have hkl := (List.getElem?_eq_some_iff.1 hk).1
  obtain ⟨r, hrr⟩ : ∃ r, rs[k]? = some r := ⟨_, List.getElem?_eq_getElem (by have := h.1; omega)⟩
  obtain ⟨_, _, e, _⟩ := own_form (h.2 k r v hrr hk)
  rw [e]
  rfl
theorem RowsAt.ext {lo : Nat} {w w' : World} {vs : List Value} {rs : List (List ByteArray)} (h : RowsAt lo w vs rs) (e : Ext w w') : RowsAt lo w' vs rs := ⟨h.1, fun i r v hr hv => up_ext (h.2 i r v hr hv) e⟩
theorem RowsV.rows {w : World} {lo pb ar : Nat} {rs : List (List ByteArray)} (h : RowsV w lo pb ar rs) : ∃ a c vs, w.cell? ⟨pb, 1, none⟩ = some (.slice a rs.length c) ∧ w.ownsRow lo 46 1 (.slice a rs.length c) rs.length vs ∧ RowsAt lo w vs rs := by
  obtain ⟨a, c, vs, h1, h2, h3⟩ := h.row
  exact ⟨a, c, vs, h1, h2, by have := h2.1; omega, h3⟩
/-- The iterator at rows: a slice that is the call's own, its values rows of the set. -/
def ItsPost (lo : Nat) (rs : List (List ByteArray)) (w : World) (e : Ending) (w' : World) : Prop := ∃ a c vs, e = .returned (.slice a rs.length c) ∧ w'.ownsRow w.heap.size 46 1 (.slice a rs.length c) rs.length vs ∧ RowsAt lo w vs rs ∧ Ext w w'
theorem c_itemsS (lo pb ar : Nat) (rs : List (List ByteArray)) (w : World) (h : RowsV w lo pb ar rs) (hn : rs.length ≤ 1000000) :
    Calls Tryz.prog 88 #[.pointer (some ⟨pb, 0, none⟩)] w (ItsPost lo rs w) := by
  obtain ⟨a, c, vs, h1, h2, h3⟩ := h.rows
  have CL := Lib.hid (c_cloneR vs a rs.length c lo w h2 h3.one hn)
  have H3 := Lib.hid h3
  clear h h2 h3
  go_enter Tryz.func88, Tryz.ntmps88
  go_wp2_with (go_at_call 100; (with_reducible refine CL.out.mono ?_); rintro e w1 ⟨a7, c7, rfl, r7, e7⟩)
  go_returns
  exact ⟨a7, c7, vs, rfl, r7, H3.out, e7⟩
theorem c_values (a : Option Addr) (n c : Nat) (w : World) :
    Calls Tryz.prog 87 #[.slice a n c] w fun e w' => e = .returned (.func (.func 99) #[] #[.pointer (some ⟨w.heap.size, 0, none⟩)]) ∧ w' = w.alloc (.cells #[.slice a n c] 22) := by
  go_enter Tryz.func87, Tryz.ntmps87
  go_wp2
  go_returns
  exact ⟨rfl, rfl⟩
/-- The iterator over rows: the closure's box holds a slice of its own. -/
def EachPost (lo : Nat) (rs : List (List ByteArray)) (w : World) (e : Ending) (w' : World) : Prop := ∃ bs a c vs, e = .returned (.func (.func 99) #[] #[.pointer (some ⟨bs, 0, none⟩)]) ∧ w.heap.size ≤ bs ∧ bs < w'.heap.size ∧ w'.cell? ⟨bs, 0, none⟩ = some (.slice a rs.length c) ∧ w'.ownsRow w.heap.size 46 1 (.slice a rs.length c) rs.length vs ∧ RowsAt lo w vs rs ∧ Ext w w'
theorem c_eachS (lo pb ar : Nat) (rs : List (List ByteArray)) (w : World) (h : RowsV w lo pb ar rs) (hn : rs.length ≤ 1000000) :
    Calls Tryz.prog 70 #[.pointer (some ⟨pb, 0, none⟩)] w (EachPost lo rs w) := by
  have IT := Lib.hid (c_itemsS lo pb ar rs w h hn)
  clear h hn
  go_enter Tryz.func70, Tryz.ntmps70
  go_wp2_with (first
    | (go_at_call 88; (with_reducible refine IT.out.mono ?_); rintro e w1 ⟨a7, c7, vs, rfl, r7, h7, e7⟩)
    | (go_at_call 87; (with_reducible refine (c_values _ _ _ _).mono ?_); rintro e w2 ⟨rfl, hw2⟩; obtain rfl := hw2.symm))
  go_returns
  exact ⟨w1.heap.size, a7, c7, vs, rfl, e7.size, by simp, (Boxed.new w1 _ _).cell, up_ext r7 (ext_alloc (Below.refl _ _) _), h7, ext_alloc e7 _⟩
/-- What has come when k rounds are over: the first k numbers below N. -/
def numsTo (N k : Nat) : List { j : Nat // j < N } := (List.range k).filterMap fun j => if h : j < N then some ⟨j, h⟩ else none
theorem numsTo_zero (N : Nat) : numsTo N 0 = [] := rfl
theorem numsTo_succ {N k : Nat} (h : k < N) : numsTo N (k + 1) = numsTo N k ++ [⟨k, h⟩] := by
  unfold numsTo
  rw [List.range_succ, List.filterMap_append]
  simp [h]
theorem numsTo_length {N k : Nat} (h : k ≤ N) : (numsTo N k).length = k := by
  induction k with
  | zero => rfl
  | succ k ih => rw [numsTo_succ (by omega), List.length_append, ih (by omega)]; rfl
set_option maxRecDepth 100000 in
set_option maxHeartbeats 2000000 in
/-- The closure of slices.Values at rows, for every loop body that keeps the block of the slice's cells. -/
theorem values1_in (F : Fence) (n : Nat) (h7 : F.fn 99) (hro : F.round = none) (hn : 1 ≤ n) (l bs g N cap : Nat) (vs : List Value) (hl : vs.length = N) (h1v : ∀ v ∈ vs, ∃ a m c, v = .slice a m c) (hN : N ≤ 1000000) (S : Nat → Prop) (hS : ¬ S g) (J Jx : List { j : Nat // j < N } → World → Prop)
    (hY : ∀ pre x W, J pre W → pre.length < N → YieldAt F (n - 1) Tryz.prog l #[vs[x.1]?.getD undef] W fun e W' =>
      (e = .returned (.bool true) ∧ J (pre ++ [x]) W' ∧ ButS S W W') ∨ (e = .returned (.bool false) ∧ Jx (pre ++ [x]) W'))
    (W : World) (hBs : W.cell? ⟨bs, 0, none⟩ = some (.slice (some ⟨g, 0, none⟩) N cap)) (hc : ∀ j v, vs[j]? = some v → W.cell? ⟨g, j, none⟩ = some v) (h0 : J [] W) :
    CallsIn F n Tryz.prog 99 #[.func (.yield l) #[] #[], .pointer (some ⟨bs, 0, none⟩)] W fun e W' => (∃ v, e = .returned v) ∧
      ((∃ ys, ys = numsTo N N ∧ J ys W') ∨ (∃ pre, (∃ k, k ≤ N ∧ pre = numsTo N k) ∧ Jx pre W')) := by
  refine callsIn_of_wp Tryz.func99 rfl h7 ?_ hro
  simp only [Tryz.ntmps99, List.size_toArray, List.length_cons, List.length_nil, Nat.reduceAdd, Nat.reduceSub, Array.replicate_succ, Array.replicate_zero, List.push_toArray, List.append_toArray, List.nil_append, List.cons_append]
  gi_wp2
  gi_loopw [7] (fun i wr => ∃ k : Nat, k ≤ N ∧ i = .int .i64 k ∧ J (numsTo N k) wr ∧ ButS S W wr)
    (fun i _ => N - (intOf i).toNat)
  case atStart => exact ⟨0, Nat.zero_le _, rfl, h0, ButS.refl _ _⟩
  case round =>
    obtain ⟨k, hk, rfl, hJs, hnx⟩ := hrel
    by_cases hlt : k < N
    · obtain ⟨v, hv⟩ : ∃ v, vs[k]? = some v := ⟨_, List.getElem?_eq_getElem (by omega)⟩
      obtain ⟨a7, m7, c7, rfl⟩ := h1v v (List.mem_of_getElem? hv)
      obtain ⟨fn, tmps, assign, body, hy, hR⟩ := hY _ ⟨k, hlt⟩ wr hJs (by rw [numsTo_length hk]; exact hlt)
      dsimp only at hy
      rw [hv] at hy
      simp only [Option.getD_some] at hy
      have hcx := hnx.cell hS (hc k _ hv)
      gi_wp2
      refine hR.mono ?_
      rintro e W3 (⟨rfl, hJ3, hk3⟩ | ⟨rfl, hJx3⟩)
      · gi_wp2
        go_roundw
        case rel => exact ⟨k + 1, by omega, by simp, by rw [numsTo_succ hlt]; exact hJ3, hnx.trans hk3⟩
        case measure => simp [intOf]; omega
      · gi_wp2
        refine bodyPost_ret (results_none rfl _ _ _) rfl ?_
        exact ⟨⟨_, rfl⟩, .inr ⟨_, ⟨k + 1, by omega, (numsTo_succ hlt).symm⟩, hJx3⟩⟩
    · obtain rfl : k = N := by omega
      gi_wp2
      go_end0
      exact ⟨⟨_, rfl⟩, .inl ⟨_, rfl, hJs⟩⟩
set_option maxRecDepth 100000 in
theorem values1_nil_in (F : Fence) (n : Nat) (h7 : F.fn 99) (hro : F.round = none) (l bs : Nat) {α : Type} (J : List α → World → Prop) (W : World) (hBs : W.cell? ⟨bs, 0, none⟩ = some (.slice none 0 0)) (h0 : J [] W) :
    CallsIn F n Tryz.prog 99 #[.func (.yield l) #[] #[], .pointer (some ⟨bs, 0, none⟩)] W fun e W' => (∃ v, e = .returned v) ∧ J [] W' := by
  refine callsIn_of_wp Tryz.func99 rfl h7 ?_ hro
  simp only [Tryz.ntmps99, List.size_toArray, List.length_cons, List.length_nil, Nat.reduceAdd, Nat.reduceSub, Array.replicate_succ, Array.replicate_zero, List.push_toArray, List.append_toArray, List.nil_append, List.cons_append]
  gi_wp2
  gi_loopw [7] (fun i wr => i = .int .i64 0 ∧ J [] wr) (fun _ _ => 0)
  case atStart => exact ⟨rfl, h0⟩
  case round =>
    obtain ⟨rfl, hJs⟩ := hrel
    gi_wp2
    go_end0
    exact ⟨⟨_, rfl⟩, hJs⟩
/-- slices.Values hands back what a loop may go over: all the slice's values in their order. -/
theorem values_stops (F : Fence) (n : Nat) (h7 : F.fn 99) (hro : F.round = none) (hn : 1 ≤ n) (bs base N cap : Nat) (a : Option Addr) (vs : List Value) (w : World) (hown : w.ownsRow base 46 1 (.slice a N cap) N vs) (h1v : ∀ v ∈ vs, ∃ a m c, v = .slice a m c) (hN : N ≤ 1000000) (S : Nat → Prop) (hS : ∀ b, (Value.slice a N cap).ownBlock = some b → ¬ S b) (hbs : bs < w.heap.size) (hc : w.cell? ⟨bs, 0, none⟩ = some (.slice a N cap)) :
    SeqStopsK F n Tryz.prog 99 #[.pointer (some ⟨bs, 0, none⟩)] (fun x : { j : Nat // j < N } => #[vs[x.1]?.getD undef]) (ButS S) (fun ys => ys = numsTo N N) (fun pre => ∃ k, k ≤ N ∧ pre = numsTo N k) N w := fun l J Jx W hW _ _ hY h0 => by
  have hc' := (hW.cell (p := ⟨bs, 0, none⟩) hbs).trans hc
  have hl : vs.length = N := by have := hown.1; omega
  rcases hown.2 with ⟨h1, h2⟩ | ⟨g, c', cur, h1, _⟩
  · cases h1
    exact (values1_nil_in F n h7 hro l bs J W hc' h0).mono fun e W' ⟨he, hj⟩ => ⟨he, .inl ⟨_, rfl, hj⟩⟩
  · cases h1
    refine values1_in F n h7 hro hn l bs g N cap vs hl h1v hN S (hS g rfl) J Jx hY W hc' (fun j v hj => ?_) h0
    have := hown.cells (g := g) rfl j v hj
    rw [Addr.add_lit, Nat.zero_add] at this
    exact (hW.cell (p := ⟨g, j, none⟩) (World.block_lt_of_cell? w ⟨g, j, none⟩ this)).trans this
end Go.Proofs.YthjpfplebbnbpaaGreat
