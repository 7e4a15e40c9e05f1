/- The walk of graph.check where nothing is amiss; the plain law of the depths. The walk of graph.Depths. -/
import Derived.Test.YtlalgaioiapjmaaGreatDoorG17
namespace Go.Proofs.YtlalgaioiapjmaaGreatDoor
open Go.ChangeShapes Go.WideShapes Go.ChangeAt Go.RowKit
open K (WSt foundW adj partOf roundW)
/-- Edges between the first n nodes, of weights that may be. -/
def EdgesOk (n : Nat) (es : List K.Edge) : Prop := ∀ e ∈ es, 0 ≤ e.src ∧ e.src < (n : Int) ∧ 0 ≤ e.dst ∧ e.dst < (n : Int) ∧ 0 ≤ e.wt ∧ e.wt ≤ 1048576
set_option maxRecDepth 100000 in
set_option maxHeartbeats 4000000 in
theorem c_checkG (es : List K.Edge) (a : Option Addr) (m cap n : Nat) (w : World) (he : EdgesAt w a m es) (hn : n ≤ 65536) (hok : EdgesOk n es) :
    Calls Tryz.prog 65 #[.int .i64 (n : Int), .slice a m cap] w fun e w' => e = .returned (.int .i64 0) ∧ Ext w w' := by
  have hm := he.1
  have HE := Lib.hid he
  have HO := Lib.hid hok
  have h1 : ¬ (65536 : Int) < (n : Int) := by omega
  have h2 : ¬ (1048576 : Int) < (m : Int) := by omega
  have h3 : ¬ (n : Int) < 0 := by omega
  clear he hok
  go_enter Tryz.func65, Tryz.ntmps65
  go_wp2
  go_loopw [16] (fun v wr => ∃ k : Nat, k ≤ m ∧ v = .int .i64 (k : Int) ∧ Ext w wr) (fun v _ => m - (intOf v).toNat)
  case atStart => exact ⟨0, Nat.zero_le _, rfl, Below.refl _ _⟩
  case round =>
    obtain ⟨k, hk, rfl, E⟩ := hrel
    by_cases hlt : k < m
    · have hki : (k : Int) < (m : Int) := by omega
      obtain ⟨e, eb, eo, hx, rfl, c0, c1, c2⟩ := (HE.out.keep E).2.at hlt
      obtain ⟨o1, o2, o3, o4, o5, o6⟩ := HO.out e (List.mem_of_getElem? hx)
      have q1 : ¬ e.src < 0 := by omega
      have q2 : ¬ (n : Int) ≤ e.src := by omega
      have q3 : ¬ e.dst < 0 := by omega
      have q4 : ¬ (n : Int) ≤ e.dst := by omega
      have q5 : ¬ e.wt < 0 := by omega
      have q6 : ¬ (1048576 : Int) < e.wt := by omega
      have HEx := Lib.hid E
      clear hx o1 o2 o3 o4 o5 o6 E
      go_wp2
      go_roundw
      case rel => exact ⟨k + 1, by omega, by go_num, ext_alloc HEx.out _⟩
      case measure => simp [intOf]; omega
    · have hge : ¬ (k : Int) < (m : Int) := by omega
      have HEx := Lib.hid E
      clear E
      go_wp2
      go_returns
      exact ⟨rfl, HEx.out⟩
/-- The edges from one part to others, between the parts. -/
def edgeP (s : WSt) (x : K.Edge) : K.Edge := ⟨(partOf s x.src : Nat), (partOf s x.dst : Nat), x.wt⟩
def downE (s : WSt) (es : List K.Edge) (p : Nat) : List K.Edge := (es.filter fun x => decide (partOf s x.src = p) && decide (partOf s x.src ≠ partOf s x.dst)).map (edgeP s)
def depthStep (p : Nat) (d : List Nat) (x : K.Edge) : List Nat := d.set p (max (d.getD p 0) (d.getD x.dst.toNat 0 + x.wt.toNat))
def depthN (s : WSt) (es : List K.Edge) : Nat → List Nat
  | 0 => List.replicate s.all 0
  | p + 1 => (downE s es p).foldl (depthStep p) (depthN s es p)
def depthsV (n : Nat) (es : List K.Edge) : List Nat := (List.range n).map fun v => (depthN (foundW n es) es (foundW n es).all).getD (partOf (foundW n es) (Int.ofNat v)) 0
theorem downE_snoc (s : WSt) (es : List K.Edge) (x : K.Edge) (p : Nat) : downE s (es ++ [x]) p = if partOf s x.src = p ∧ partOf s x.src ≠ partOf s x.dst then downE s es p ++ [edgeP s x] else downE s es p := by
  unfold downE
  rw [List.filter_append, List.map_append]
  by_cases h : partOf s x.src = p ∧ partOf s x.src ≠ partOf s x.dst
  · have q : (decide (partOf s x.src = p) && decide (partOf s x.src ≠ partOf s x.dst)) = true := by
      rw [Bool.and_eq_true]
      exact ⟨decide_eq_true h.1, decide_eq_true h.2⟩
    rw [if_pos h, List.filter_cons, if_pos q]
    rfl
  · rw [if_neg h]
    have : (decide (partOf s x.src = p) && decide (partOf s x.src ≠ partOf s x.dst)) = false := by
      rw [Bool.eq_false_iff]
      intro q
      simp at q
      exact h q
    rw [List.filter_cons, this]
    simp
theorem roundW_snoc (s : WSt) (es : List K.Edge) (x : K.Edge) : roundW s (es ++ [x]) = (roundW s es || (decide (partOf s x.src = partOf s x.dst) && decide (0 < x.wt))) := by
  unfold K.roundW
  rw [List.any_append]
  simp
theorem part_lt {es : List K.Edge} {n : Nat} (hok : EdgesOk n es) (v : Nat) (hv : v < n) : ∃ a, (foundW n es).part.getD v none = some a ∧ a < (foundW n es).all ∧ partOf (foundW n es) (v : Int) = a := by
  have h := stI_inv (es := es) (n := n) (fun v _ t ht => adj_ok (fun e he => ⟨(hok e he).1, (hok e he).2.1, (hok e he).2.2.1, (hok e he).2.2.2.1⟩) v t ht) n (Nat.le_refl _)
  rw [stI_all] at h
  obtain ⟨a, h1, h2⟩ := h.done v hv (h.first v hv hv)
  exact ⟨a, h1, h2, by unfold K.partOf; rw [Int.toNat_natCast, h1]; rfl⟩
theorem depth_len (s : WSt) (es : List K.Edge) : ∀ p, (depthN s es p).length = s.all
  | 0 => by simp [depthN]
  | p + 1 => by
    have ih := depth_len s es p
    show ((downE s es p).foldl (depthStep p) (depthN s es p)).length = _
    rw [← ih]
    generalize depthN s es p = d
    generalize downE s es p = l
    induction l generalizing d with
    | nil => rfl
    | cons x l ihl => rw [List.foldl_cons, ihl]; unfold depthStep; simp
end Go.Proofs.YtlalgaioiapjmaaGreatDoor
namespace Go.Proofs.YtlalgaioiapjmaaGreatDoor
open Go.ChangeShapes Go.WideShapes Go.ChangeAt Go.RowKit
open K (WSt foundW adj partOf roundW)
abbrev edgeC (x : K.Edge) : List Value := [.int .i64 x.src, .int .i64 x.dst, .int .i64 x.wt]
def edgesC (l : List K.Edge) : List Value := l.flatMap edgeC
theorem edgesC_len (l : List K.Edge) : (edgesC l).length = l.length * 3 := by
  induction l with
  | nil => rfl
  | cons a l ih => simp only [edgesC, List.flatMap_cons, List.length_append] at ih ⊢; rw [ih]; simp; omega
theorem info_edge : (Tryz.prog.info? 110).map (fun i => (i.zero, i.size, i.bytes)) = some (some (.agg #[.int .i64 0, .int .i64 0, .int .i64 0]), 3, 24) := by kernel_rfl
theorem info_edges : (Tryz.prog.info? 80).map (fun i => (i.zero, i.size, i.bytes)) = some (some (.slice none 0 0), 1, 24) := by kernel_rfl
theorem cells3_new (w : World) (u0 u1 u2 : Value) (t : TypeId) : ∀ j x, [u0, u1, u2][j]? = some x → (w.alloc (.cells #[u0, u1, u2] t)).cell? ((⟨w.heap.size, 0, none⟩ : Addr).add j) = some x := fun j x hj => by
  have hB := Blk.new w [u0, u1, u2] t
  rw [Addr.add_lit, Nat.zero_add]
  exact hB.cell hj
theorem step_push_edge {ops : Array Oper} {o : Oper} {a : Act} {KK : Act → World → Prop} {Q : Exit → Act → World → Prop} {E : Prop} (W0 : World) (x : K.Edge) (base : Nat) (fa : Option Addr) (n fc : Nat) (l : List Value) (hown : W0.ownsRow base 110 3 (.slice fa n fc) n l) (hn : n ≤ 2000000) (hbase : base ≤ W0.heap.size) (hgd : o.guard = none) (so xo : Operand)
    (ho : o.op = .call { callee := .builtin .append, args := #[so, xo], argTypes := #[80, 80] }) (hs : a.eval so = .slice fa n fc) (hx : a.eval xo = .slice (some ⟨W0.heap.size, 0, none⟩) 1 1)
    (h : ∀ g cap w', w'.ownsRow base 110 3 (.slice (some ⟨g, 0, none⟩) (n + 1) cap) (n + 1) (l ++ edgeC x) → (W0.alloc (.cells #[.int .i64 x.src, .int .i64 x.dst, .int .i64 x.wt] 110)).grownBy w' (Value.slice fa n fc).ownBlock → ((Value.slice fa n fc).ownBlock = some g ∨ W0.heap.size ≤ g) → KK (a.put o.dst (.slice (some ⟨g, 0, none⟩) (n + 1) cap)) w') :
    if Region.wanted o (yielded ops a.tmps) = true then Oper.wp Tryz.prog o a (W0.alloc (.cells #[.int .i64 x.src, .int .i64 x.dst, .int .i64 x.wt] 110)) KK Q else E := by
  obtain ⟨n0, hn0, nz0, nz1, nz2⟩ := info_parts info_edge
  exact step_append_lies _ hgd so xo 80 ho base 110 n0 (.agg #[.int .i64 0, .int .i64 0, .int .i64 0]) 3 24 Tryz.underlying80 hn0 nz0 nz1 nz2 rfl (by decide) _ n l hs (hown.alloc _) ⟨W0.heap.size, 0, none⟩ 1 1 (edgeC x) hx rfl (cells3_new W0 _ _ _ _) (by intro u hu; simp [edgeC] at hu; rcases hu with rfl | rfl | rfl <;> rfl) (by omega) (by unfold maxLen; omega) (by omega) (by simp; omega) _ rfl fun g cap w1 hown1 hgrow hat _ => h g cap w1 hown1 hgrow (hat.imp id fun e => by rw [e]; simp)
def DownV (w : World) (C : Nat → Prop) (B0 gd : Nat) (s : WSt) (es : List K.Edge) : Prop := ListsAt w C B0 gd s.all 110 80 3 (fun p => edgesC (downE s es p)) (fun p => (downE s es p).length)
theorem down_updA (s : WSt) (es : List K.Edge) (x : K.Edge) (hne : partOf s x.src ≠ partOf s x.dst) : updA (fun p => edgesC (downE s es p)) (partOf s x.src) (edgesC (downE s es (partOf s x.src)) ++ edgeC (edgeP s x)) = (fun p => edgesC (downE s (es ++ [x]) p)) ∧ updA (fun p => (downE s es p).length) (partOf s x.src) ((downE s es (partOf s x.src)).length + 1) = fun p => (downE s (es ++ [x]) p).length := by
  constructor <;> funext p <;> unfold updA <;> simp only [downE_snoc]
  · by_cases h : p = partOf s x.src
    · subst h; simp [hne, edgesC]
    · rw [if_neg h, if_neg (fun q => h q.1.symm)]
  · by_cases h : p = partOf s x.src
    · subst h; simp [hne]
    · rw [if_neg h, if_neg (fun q => h q.1.symm)]
theorem down_same (s : WSt) (es : List K.Edge) (x : K.Edge) (he : partOf s x.src = partOf s x.dst) (p : Nat) : downE s (es ++ [x]) p = downE s es p := by
  rw [downE_snoc, if_neg (fun q => q.2 he)]
theorem down_len (s : WSt) (es : List K.Edge) (p : Nat) : (downE s es p).length ≤ es.length := by
  unfold downE
  rw [List.length_map]
  exact List.length_filter_le _ _
/-- Depths stay below what the weights allow. -/
theorem fold_bound {p M : Nat} : ∀ (l : List K.Edge) (d : List Nat) (C : Nat), (∀ x ∈ l, x.dst.toNat ≠ p ∧ x.wt.toNat ≤ M) → (∀ q, q ≠ p → d.getD q 0 ≤ C) → d.getD p 0 ≤ C + M → (∀ q, q ≠ p → (l.foldl (depthStep p) d).getD q 0 ≤ C) ∧ (l.foldl (depthStep p) d).getD p 0 ≤ C + M
  | [], _, _, _, h1, h2 => ⟨h1, h2⟩
  | x :: l, d, C, hx, h1, h2 => by
    rw [List.foldl_cons]
    obtain ⟨q1, q2⟩ := hx x (by simp)
    refine fold_bound l _ C (fun y hy => hx y (by simp [hy])) (fun q hq => ?_) ?_
    · unfold depthStep
      rw [K.getD_set, if_neg (fun e => hq e.1.symm)]
      exact h1 q hq
    · unfold depthStep
      rw [K.getD_set]
      have := h1 _ q1
      split <;> omega
theorem downE_mem {s : WSt} {es : List K.Edge} {p : Nat} {x : K.Edge} (h : x ∈ downE s es p) : ∃ y ∈ es, x = edgeP s y ∧ partOf s y.src = p ∧ partOf s y.dst ≠ p := by
  obtain ⟨y, hy, rfl⟩ := List.mem_map.1 h
  obtain ⟨h1, h2⟩ := List.mem_filter.1 hy
  simp at h2
  exact ⟨y, h1, rfl, h2.1, fun e => h2.2 (h2.1.trans e.symm)⟩
theorem depth_mid {M : Nat} {s : WSt} {es : List K.Edge} (hok : ∀ e ∈ es, e.wt.toNat ≤ M) {p : Nat} (ih : ∀ q, (depthN s es p).getD q 0 ≤ p * M) (l : List K.Edge) (hl : ∀ x ∈ l, x ∈ downE s es p) :
    (∀ q, q ≠ p → (l.foldl (depthStep p) (depthN s es p)).getD q 0 ≤ p * M) ∧ (l.foldl (depthStep p) (depthN s es p)).getD p 0 ≤ p * M + M :=
  fold_bound (p := p) l (depthN s es p) (p * M) (fun x hx => by
    obtain ⟨y, hy, rfl, h1, h2⟩ := downE_mem (hl x hx)
    refine ⟨?_, hok y hy⟩
    show (partOf s y.dst : Int).toNat ≠ p
    rw [Int.toNat_natCast]
    exact h2) (fun q _ => ih q) (by have := ih p; omega)
theorem depth_bound {M : Nat} {s : WSt} {es : List K.Edge} (hok : ∀ e ∈ es, e.wt.toNat ≤ M) : ∀ p q, (depthN s es p).getD q 0 ≤ p * M
  | 0, q => by
    show (List.replicate s.all 0).getD q 0 ≤ _
    rw [getD_rep]
    exact Nat.zero_le _
  | p + 1, q => by
    have ih := depth_bound (s := s) hok p
    have h := depth_mid hok ih (downE s es p) (fun x hx => hx)
    show ((downE s es p).foldl (depthStep p) (depthN s es p)).getD q 0 ≤ _
    rw [Nat.succ_mul]
    by_cases e : q = p
    · subst e; exact h.2
    · have := h.1 q e; omega
theorem edgesC_get (l : List K.Edge) (i j : Nat) (x : K.Edge) (h : l[i]? = some x) (hj : j < 3) : (edgesC l)[i * 3 + j]? = (edgeC x)[j]? := by
  induction l generalizing i with
  | nil => simp at h
  | cons a ts ih =>
    have e : edgesC (a :: ts) = edgeC a ++ edgesC ts := rfl
    cases i with
    | zero =>
      simp at h
      subst h
      rw [e, Nat.zero_mul, Nat.zero_add, List.getElem?_append_left (by simpa using hj)]
    | succ i =>
      rw [e, show (i + 1) * 3 + j = (i * 3 + j) + 3 by omega, List.getElem?_append_right (by simp), show (i * 3 + j) + 3 - (edgeC a).length = i * 3 + j by simp]
      exact ih i (by simpa using h)
theorem own_edges {w : World} {base n cap : Nat} {a : Option Addr} {l : List K.Edge} (h : w.ownsRow base 110 3 (.slice a n cap) n (edgesC l)) (hn : n ≤ 1048576) : EdgesAt w a n l := by
  have hl := h.1
  rw [edgesC_len] at hl
  refine ⟨hn, by omega, fun i x hx => ?_⟩
  have hi := (List.getElem?_eq_some_iff.1 hx).1
  rcases h.2 with ⟨h1, h0⟩ | ⟨g, c', cur, hv, _⟩
  · omega
  · cases hv
    have C : ∀ j u, (edgeC x)[j]? = some u → w.cell? ⟨g, 0 + i * 3 + j, none⟩ = some u := fun j u hu => by
      have hj : j < 3 := (List.getElem?_eq_some_iff.1 hu).1
      have := h.cells (g := g) rfl (i * 3 + j) u (by rw [edgesC_get l i j x hx hj]; exact hu)
      rw [Addr.add_lit] at this
      rw [show 0 + i * 3 + j = 0 + (i * 3 + j) by omega]
      exact this
    exact ⟨g, 0, rfl, C 0 _ rfl, C 1 _ rfl, C 2 _ rfl⟩
end Go.Proofs.YtlalgaioiapjmaaGreatDoor
