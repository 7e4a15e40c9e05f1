/- A queue of numbers in memory: a slice that may begin anywhere in its block; one more behind, one less ahead. A search over edges: what is met, what is to do. Plain lemmas, and its state in memory. The walks of graph.Reach's closures. The walk of graph.Reach. -/
import Derived.Test.YtlalgaioiapjmaaGreatDoorG5
import Derived.Test.YtlalgaioiapjmaaGreatDoorG19
import Derived.ArgAppend
import Derived.Deep.LoopGhost
import Derived.Deep.CutBlock
namespace Go.Proofs.YtlalgaioiapjmaaGreatDoor
open Go.ChangeShapes Go.WideShapes Go.ChangeAt Go.RowKit
/-- The block of a slice. -/
def sBlk (a : Option Addr) : Option Nat := a.map (·.block)
def QAt (w : World) (lo : Nat) (a : Option Addr) (n c : Nat) (q : List Int) : Prop :=
  q.length = n ∧ ((a = none ∧ n = 0 ∧ c = 0) ∨ ∃ b off, ∃ cs : List Value, a = some ⟨b, off, none⟩ ∧ lo ≤ b ∧ Blk w b 3 cs ∧ n ≤ c ∧ off + c ≤ cs.length ∧ c ≤ maxLen ∧ (cs.drop off).take n = q.map intV)
theorem QAt.nil (w : World) (lo : Nat) : QAt w lo none 0 0 [] := ⟨rfl, .inl ⟨rfl, rfl, rfl⟩⟩
section
variable {w w' : World} {lo n c : Nat} {a : Option Addr} {q : List Int}
theorem QAt.ext (h : QAt w lo a n c q) (e : Ext w w') : QAt w' lo a n c q := by
  obtain ⟨h1, h2⟩ := h
  refine ⟨h1, h2.imp id ?_⟩
  rintro ⟨b, off, cs, r1, r2, r3, r4⟩
  exact ⟨b, off, cs, r1, r2, r3.ext e, r4⟩
theorem QAt.but (h : QAt w lo a n c q) {S : Nat → Prop} (e : ButS S w w') (hs : ∀ b, sBlk a = some b → ¬ S b) : QAt w' lo a n c q := by
  obtain ⟨h1, h2⟩ := h
  refine ⟨h1, h2.imp id ?_⟩
  rintro ⟨b, off, cs, r1, r2, r3, r4⟩
  exact ⟨b, off, cs, r1, r2, r3.but e (hs b (by rw [r1]; rfl)), r4⟩
theorem QAt.ty (h : QAt w lo a n c q) {b : Nat} (hb : sBlk a = some b) : lo ≤ b ∧ b < w.heap.size ∧ Ty w b 3 := by
  rcases h.2 with ⟨rfl, _⟩ | ⟨b', off, cs, rfl, r2, r3, _⟩
  · cases hb
  · cases hb
    exact ⟨r2, r3.lt, r3.ty⟩
/-- The first one. -/
theorem QAt.head {x : Int} {xs : List Int} (h : QAt w lo a n c (x :: xs)) : ∃ b off, a = some ⟨b, off, none⟩ ∧ w.cell? ⟨b, off, none⟩ = some (intV x) ∧ n = xs.length + 1 ∧ n ≤ c ∧ c ≤ maxLen ∧ QAt w lo (some ⟨b, off + 1, none⟩) xs.length (c - 1) xs := by
  obtain ⟨h1, h2⟩ := h
  rw [List.length_cons] at h1
  rcases h2 with ⟨_, h3, _⟩ | ⟨b, off, cs, rfl, r2, r3, r4, r5, r6, r7⟩
  · omega
  · have hlt : off < cs.length := by omega
    have e1 : cs.drop off = cs[off] :: cs.drop (off + 1) := List.drop_eq_getElem_cons hlt
    rw [e1, ← h1, List.take_succ_cons, List.map_cons] at r7
    obtain ⟨r8, r9⟩ := List.cons.inj r7
    refine ⟨b, off, rfl, r3.cell (by rw [List.getElem?_eq_getElem hlt, r8]), h1.symm, r4, r6, rfl, .inr ⟨b, off + 1, cs, rfl, r2, r3, by omega, by omega, by omega, r9⟩⟩
theorem zc_one (n : Nat) (z : Int) : Builtin.zeroCells (Value.int .i64 z).cells n = Array.replicate n (.int .i64 z) := by
  apply Array.ext
  · simp [Builtin.zeroCells, Value.cells]
  · intro i h1 h2
    simp [Builtin.zeroCells, Value.cells, Nat.mod_one]
/-- One more behind. -/
theorem QAt.push (h : QAt w lo a n c q) (ty : TypeId) (z : Int) (ab : Nat) (ca : Nat) (hz : w.cell? ⟨ab, 0, none⟩ = some (intV z)) (hn : n ≤ 1000000) (hlo : lo ≤ w.heap.size) :
    ∃ g off c' w', (Builtin.append_ #[52, 52] ty #[.slice a n c, .slice (some ⟨ab, 0, none⟩) 1 ca]).run Tryz.prog w = .ok (.slice (some ⟨g, off, none⟩) (n + 1) c') w' ∧ QAt w' lo (some ⟨g, off, none⟩) (n + 1) c' (q ++ [z]) ∧ w.grownBy w' (sBlk a) ∧ (sBlk a = some g ∨ w.heap.size ≤ g) := by
  obtain ⟨i0, hi, hz0, hz1, hz2⟩ := info_parts info_int
  have hnews : ∀ j u, [intV z][j]? = some u → w.cell? ((⟨ab, 0, none⟩ : Addr).add j) = some u := fun j u hj => by
    cases j with
    | zero => rw [Addr.add_lit]; cases hj; exact hz
    | succ j => simp at hj
  obtain ⟨h1, h2⟩ := h
  rcases h2 with ⟨rfl, rfl, rfl⟩ | ⟨b, off, cs, rfl, r2, r3, r4, r5, r6, r7⟩
  · obtain ⟨g, c', w', e1, e2, e3, e4, _⟩ := run_append_one (P := Tryz.prog) w 52 ty lo 3 i0 (.int .i64 0) 1 8 Tryz.underlying52 hi hz0 hz1 hz2 rfl (by decide) none 0 0 [] (World.ownsRow_nil _ _ _ _) ⟨ab, 0, none⟩ ca [intV z] rfl hnews (by intro u hu; simp at hu; subst hu; rfl) (by unfold maxLen; omega) (by omega) hlo
    obtain rfl : q = [] := List.eq_nil_of_length_eq_zero h1
    refine ⟨g, 0, c', w', e1, ⟨rfl, .inr ?_⟩, e3, .inr (by
      rcases e4 with e | e
      · cases e
      · omega)⟩
    rcases e2.2 with ⟨k1, _⟩ | ⟨g', c2, cur, hv, k1, k2, k3, k4, k5, k6⟩
    · cases k1
    · cases hv
      refine ⟨g, 0, cur.toList, rfl, k1, by unfold Blk; rw [k2], k3, by simp at k5 ⊢; omega, k4, by simpa using k6⟩
  · by_cases hroom : n + 1 ≤ c
    · have hj0 : ∀ j, j < [intV z].length → j = 0 := fun j hj => by simpa using hj
      have e1 := run_append_room_cells (P := Tryz.prog) (w := w) 52 ty 3 i0 Tryz.underlying52 hi b off n c ⟨ab, 0, none⟩ 1 ca [intV z] (by rw [hz1]; rfl) hnews (by intro u hu; simp at hu; subst hu; rfl) hroom
        (fun j hj => by
          rw [hj0 j hj, hz1]
          have hlt : off + n * 1 + 0 < cs.length := by omega
          rw [r3.cell (List.getElem?_eq_getElem hlt)]
          rfl) (fun j hj => r3.free _)
      rw [hz1, Nat.mul_one] at e1
      refine ⟨b, off, c, _, e1, ⟨by simp [h1], .inr ⟨b, off, cs.set (off + n) (intV z), rfl, r2, r3.set _ _, hroom, by simpa using r5, r6, ?_⟩⟩, ?_, .inl rfl⟩
      · have hlt : off + n < cs.length := by omega
        have hdl : c ≤ (cs.drop off).length := by rw [List.length_drop]; omega
        have hnd : n < (cs.drop off).length := by omega
        rw [List.drop_set, if_neg (by omega), show off + n - off = n by omega, List.take_set, List.take_succ_eq_append_getElem hnd, r7, List.map_append]
        rw [List.set_append_right _ _ (by rw [List.length_map, h1]; exact Nat.le_refl _), List.length_map, h1, Nat.sub_self]
        rfl
      · refine ⟨rfl, rfl, rfl, by simp [World.setCells], fun k hk hne => ?_⟩
        have hne2 : k ≠ b := fun e => hne (by rw [e]; rfl)
        exact heap_setCell_other w ⟨b, off + n, none⟩ k (intV z) hne2
    · obtain rfl : n = c := by omega
      have holds : ∀ j v, (q.map intV)[j]? = some v → w.cell? ((⟨b, off, none⟩ : Addr).add j) = some v := fun j v hj => by
        rw [Addr.add_lit]
        have hjn : j < n := by
          have := (List.getElem?_eq_some_iff.1 hj).1
          rw [List.length_map] at this
          omega
        rw [← r7, List.getElem?_take_of_lt hjn, List.getElem?_drop] at hj
        exact r3.cell hj
      have hb8 : (n + 1) * i0.bytes ≤ 140737488355328 := by rw [hz2]; omega
      have e1 := run_append_grow (P := Tryz.prog) (w := w) 52 ty 3 i0 (.int .i64 0) Tryz.underlying52 hi hz0 ⟨b, off, none⟩ n n (q.map intV) (by rw [hz1, List.length_map, h1]; omega) holds ⟨ab, 0, none⟩ 1 ca [intV z] (by rw [hz1]; rfl) hnews (by omega) (by omega) (growslice_fits (by omega) hb8)
      have hcap := grownCap_ge w (n + 1) n 3
      have hcm := grownCap_le_maxLen w (n + 1) n 3 (by unfold maxLen; omega)
      obtain ⟨cp, hcp⟩ : ∃ cp, grownCap w (n + 1) n 3 = cp := ⟨_, rfl⟩
      rw [hcp] at e1 hcap hcm
      refine ⟨w.heap.size, 0, cp, _, e1, ⟨by simp [h1], .inr ⟨w.heap.size, 0, (q.map intV ++ [intV z] ++ List.replicate (cp - (n + 1)) (.int .i64 0)), rfl, hlo, ?_, hcap, ?_, hcm, ?_⟩⟩, ?_, .inr (Nat.le_refl _)⟩
      · have h9 := heap_alloc_new w.drew (.cells ((q.map intV).toArray ++ #[intV z] ++ Builtin.zeroCells (Value.int .i64 0).cells (cp - (n + 1))) 3)
        unfold Blk
        rw [show (w.heap.size) = w.drew.heap.size from rfl]
        refine Eq.trans h9 ?_
        rw [zc_one]
        simp
      · simp [h1]
        omega
      · rw [List.drop_zero, List.map_append]
        exact List.take_left' (by simp [h1])
      · refine ⟨rfl, rfl, rfl, by simp, fun k hk hne => ?_⟩
        exact Below.heap_alloc w.drew _ k hk
end
end Go.Proofs.YtlalgaioiapjmaaGreatDoor
namespace Go.Proofs.YtlalgaioiapjmaaGreatDoor
open Go.ChangeShapes Go.WideShapes Go.ChangeAt Go.RowKit
open K (adj)
/-- Edges lead from x to y. -/
inductive RchR (es : List K.Edge) : Nat → Nat → Prop
  | refl (x : Nat) : RchR es x x
  | step {x y z : Nat} : RchR es x y → z ∈ adj es y → RchR es x z
open Classical in
/-- The nodes to which edges lead. -/
noncomputable def rchL (es : List K.Edge) (n v : Nat) : List Nat := (List.range n).filter fun i => decide (RchR es v i)
def addS (s : List Bool × List Nat) (i : Nat) : List Bool × List Nat := if s.1.getD i false = true then s else (s.1.set i true, s.2 ++ [i])
structure RInv (es : List K.Edge) (n v : Nat) (s : List Bool × List Nat) : Prop where
  len : s.1.length = n
  row : ∀ y ∈ s.2, y < n ∧ s.1.getD y false = true
  rch : ∀ y, s.1.getD y false = true → RchR es v y
  shut : ∀ y, s.1.getD y false = true → y ∉ s.2 → ∀ t ∈ adj es y, s.1.getD t false = true
theorem getD_set (l : List Bool) (i j : Nat) (b : Bool) : (l.set i b).getD j false = if i = j ∧ i < l.length then b else l.getD j false := by
  simp only [List.getD_eq_getElem?_getD, List.getElem?_set]
  by_cases h : i = j
  · subst h
    by_cases h2 : i < l.length
    · simp [h2]
    · simp [h2]
  · simp [h]
def muR (s : List Bool × List Nat) : Nat := 2 * s.1.count false + s.2.length
theorem count_set {l : List Bool} {i : Nat} (h : l.getD i false = false) (hi : i < l.length) : (l.set i true).count false + 1 = l.count false := by
  have e : l[i] = false := by
    rw [List.getD_eq_getElem?_getD, List.getElem?_eq_getElem hi] at h
    simpa using h
  rw [List.count_set hi, e]
  have hp : 0 < l.count false := List.count_pos_iff.2 (by rw [← e]; exact List.getElem_mem hi)
  simp
  omega
theorem addS_mu {n : Nat} {s : List Bool × List Nat} (hl : s.1.length = n) {i : Nat} (hi : i < n) : muR (addS s i) ≤ muR s := by
  unfold addS
  split
  · exact Nat.le_refl _
  · rename_i h
    have h0 : s.1.getD i false = false := by simpa using h
    have := count_set h0 (by omega)
    unfold muR
    simp only [List.length_append, List.length_cons, List.length_nil]
    omega
theorem addS_has {n : Nat} {s : List Bool × List Nat} (hl : s.1.length = n) {i : Nat} (hi : i < n) : (addS s i).1.getD i false = true ∧ ∀ y, s.1.getD y false = true → (addS s i).1.getD y false = true := by
  unfold addS
  split
  · rename_i h; exact ⟨h, fun _ h => h⟩
  · refine ⟨?_, fun y hy => ?_⟩
    · rw [getD_set, if_pos ⟨rfl, by omega⟩]
    · rw [getD_set]
      split
      · rfl
      · exact hy
theorem RInv.add {es : List K.Edge} {n v : Nat} {s : List Bool × List Nat} (h : RInv es n v s) {i : Nat} (hi : i < n) (hr : RchR es v i) : RInv es n v (addS s i) := by
  have hh := addS_has h.len hi
  unfold addS at hh ⊢
  split
  · exact h
  · rename_i hf
    rw [if_neg hf] at hh
    refine ⟨by simpa using h.len, fun y hy => ?_, fun y hy => ?_, fun y hy hn t ht => ?_⟩
    · rcases List.mem_append.1 hy with hy | hy
      · exact ⟨(h.row y hy).1, hh.2 y (h.row y hy).2⟩
      · rw [List.mem_singleton.1 hy]; exact ⟨hi, hh.1⟩
    · rw [getD_set] at hy
      split at hy
      · rename_i q
        rw [← q.1]; exact hr
      · exact h.rch y hy
    · rw [getD_set] at hy
      simp only [List.mem_append, List.mem_singleton, not_or] at hn
      split at hy
      · rename_i q
        exact absurd q.1.symm hn.2
      · exact hh.2 t (h.shut y hy hn.1 t ht)
/-- The first one is done. -/
theorem RInv.pop {es : List K.Edge} {n v x : Nat} {s : List Bool × List Nat} {r : List Nat} (h : RInv es n v s) (hs : s.2 = x :: r) (hx : ∀ t ∈ adj es x, s.1.getD t false = true) : RInv es n v (s.1, r) := by
  refine ⟨h.len, fun y hy => h.row y (by rw [hs]; exact List.mem_cons_of_mem _ hy), h.rch, fun y hy hn t ht => ?_⟩
  by_cases e : y = x
  · subst e; exact hx t ht
  · exact h.shut y hy (by rw [hs]; exact fun q => (List.mem_cons.1 q).elim e hn) t ht
theorem RInv.done {es : List K.Edge} {n v : Nat} {l : List Bool} (h : RInv es n v (l, [])) (h0 : l.getD v false = true) (y : Nat) : l.getD y false = true ↔ RchR es v y := by
  refine ⟨h.rch y, fun q => ?_⟩
  induction q with
  | refl => exact h0
  | step _ ht ih => exact h.shut _ ih (by simp) _ ht
/-- In memory. -/
structure RcM (w : World) (lo tb hb rb n : Nat) (s : List Bool × List Nat) : Prop where
  tbl : Blk w tb 203 [.slice (some ⟨hb, 0, none⟩) n n]
  seen : Blk w hb 4 (s.1.map Value.bool)
  row : ∃ ra rc, Blk w rb 52 [.slice ra s.2.length rc] ∧ QAt w lo ra s.2.length rc (s.2.map fun (k : Nat) => (k : Int))
  sep : lo ≤ tb ∧ lo ≤ hb ∧ lo ≤ rb
theorem RcM.ext {w w' : World} {lo tb hb rb n : Nat} {s : List Bool × List Nat} (h : RcM w lo tb hb rb n s) (e : Ext w w') : RcM w' lo tb hb rb n s := by
  obtain ⟨ra, rc, h1, h2⟩ := h.row
  exact ⟨h.tbl.ext e, h.seen.ext e, ⟨ra, rc, h1.ext e, h2.ext e⟩, h.sep⟩
/-- One number more, in a region that draws nothing. -/
theorem wpList_push_q {ops : Array Oper} {rest : List Oper} {o : Oper} {a : Act} {Q : Exit → Act → World → Prop} (W0 : World) (z : Int) (lo : Nat) (fa : Option Addr) (n fc : Nat) (q : List Int) (hq : QAt W0 lo fa n fc q) (hn : n ≤ 1000000) (hlo : lo ≤ W0.heap.size) (hgd : o.guard = none) (s x : Operand)
    (ho : o.op = .call { callee := .builtin .append, args := #[s, x], argTypes := #[52, 52] }) (hs : a.eval s = .slice fa n fc) (hx : a.eval x = .slice (some ⟨W0.heap.size, 0, none⟩) 1 1)
    (h : ∀ g off cap w', QAt w' lo (some ⟨g, off, none⟩) (n + 1) cap (q ++ [z]) → (W0.alloc (.cells #[.int .i64 z] 3)).grownBy w' (sBlk fa) → (sBlk fa = some g ∨ W0.heap.size ≤ g) → wpList Tryz.prog ops Q rest (a.put o.dst (.slice (some ⟨g, off, none⟩) (n + 1) cap)) w') :
    wpList Tryz.prog ops Q (o :: rest) a (W0.alloc (.cells #[.int .i64 z] 3)) := by
  refine wpList_plain hgd fun K hK' => ?_
  obtain ⟨g, off, c', w', hrun, r1, r2, r3⟩ := (hq.ext (ext_alloc (Below.refl _ _) (.cells #[.int .i64 z] 3))).push o.type z W0.heap.size 1 ((Blk.new W0 [.int .i64 z] 3).cell (i := 0) rfl) hn (by simp; omega)
  unfold Oper.wp
  simp [execOp, ho, resolve, invoke, builtin, hs, hx, hrun, Result.andThen]
  exact hK' _ _ (h g off c' w' r1 r2 (r3.imp id (fun e => by simp at e; omega)))
end Go.Proofs.YtlalgaioiapjmaaGreatDoor
namespace Go.Proofs.YtlalgaioiapjmaaGreatDoor
open Go.ChangeShapes Go.WideShapes Go.ChangeAt Go.RowKit
open K (adj)
set_option linter.unusedSimpArgs false in
theorem c_rch1 (i n : Int) (nb : Nat) (w : World) (h : w.cell? ⟨nb, 0, none⟩ = some (.int .i64 n)) :
    Calls Tryz.prog 142 #[.int .i64 i, .pointer (some ⟨nb, 0, none⟩)] w fun e w' => e = .returned (.bool (decide (i < 0) || decide (n ≤ i))) ∧ w' = w := by
  go_enter Tryz.func142, Tryz.ntmps142
  obtain ⟨b, hb⟩ : ∃ b, decide (i < 0) = b := ⟨_, rfl⟩
  cases b with
  | true =>
    have h0 : i < 0 := of_decide_eq_true hb
    go_wp2
    go_ret
    exact ⟨by simp [h0], rfl⟩
  | false =>
    have h0 : ¬ i < 0 := of_decide_eq_false hb
    go_wp2
    go_ret
    exact ⟨by simp [h0], rfl⟩
set_option maxHeartbeats 4000000 in
theorem c_rch2 (lo tb hb rb n i : Nat) (s : List Bool × List Nat) (w : World) (h : RcM w lo tb hb rb n s) (hl : s.1.length = n) (hi : i < n) (hr : s.2.length ≤ 1000000) (hlo : lo ≤ w.heap.size) :
    Calls Tryz.prog 143 #[.int .i64 (i : Int), .pointer (some ⟨tb, 0, none⟩), .pointer (some ⟨rb, 0, none⟩)] w fun e w' => (∃ v, e = .returned v) ∧ RcM w' lo tb hb rb n (addS s i) ∧ ButS (fun x => lo ≤ x) w w' := by
  obtain ⟨ra, rc, hB, hQ⟩ := h.row
  have ii : (i : Int) < (n : Int) := by omega
  have t0 := h.tbl.cell (i := 0) rfl
  have r0 := hB.cell (i := 0) rfl
  have hil : i < s.1.length := by omega
  have s0 : w.cell? ⟨hb, i, none⟩ = some (.bool (s.1.getD i false)) := h.seen.cell (by rw [List.getElem?_map, List.getElem?_eq_getElem hil, List.getD_eq_getElem?_getD, List.getElem?_eq_getElem hil]; rfl)
  have sf := h.seen.free i
  have H := Lib.hid h
  have AD : Hid (addS s i = if s.1.getD i false = true then s else (s.1.set i true, s.2 ++ [i])) := rfl
  obtain ⟨b, hb2⟩ : ∃ b, s.1.getD i false = b := ⟨_, rfl⟩
  rw [hb2] at s0 AD
  clear h hil
  cases b with
  | true =>
    clear hb2 hB hQ
    go_enter Tryz.func143, Tryz.ntmps143
    go_wp2
    go_end0
    exact ⟨⟨_, rfl⟩, by rw [AD.out]; exact H.out, ButS.refl _ _⟩
  | false =>
    have HB := Lib.hid hB
    have HQ := Lib.hid hQ
    clear hb2 hB hQ
    have hne : tb ≠ hb := H.out.tbl.ty.ne H.out.seen.ty (by decide)
    have hrh : rb ≠ hb := HB.out.ty.ne H.out.seen.ty (by decide)
    go_enter Tryz.func143, Tryz.ntmps143
    go_upto_region 2 with (fail)
    obtain ⟨W1, hW1⟩ : ∃ W1, w.setCell ⟨hb, i, none⟩ (.bool true) = W1 := ⟨_, rfl⟩
    have b1 : ButS (fun x => x = hb) w W1 := by rw [← hW1]; exact (ButS.refl (fun x => x = hb) w).set (.inl rfl) _ _
    have S1 : Blk W1 hb 4 ((s.1.set i true).map Value.bool) := by
      have := H.out.seen.set i (.bool true)
      rw [hW1] at this
      rw [List.map_set]
      exact this
    have B1 := HB.out.but b1 hrh
    have Q1 := HQ.out.but b1 (fun b hb2 e => by subst e; exact (HQ.out.ty hb2).2.2.ne H.out.seen.ty (by decide) rfl)
    have T1 := H.out.tbl.but b1 hne
    have r1 := B1.cell (i := 0) rfl
    have hlo1 : lo ≤ W1.heap.size := Nat.le_trans hlo b1.size
    have PU : Hid (∀ g off c w6, QAt w6 lo (some ⟨g, off, none⟩) (s.2.length + 1) c ((s.2.map fun (k : Nat) => (k : Int)) ++ [(i : Int)]) → (W1.alloc (.cells #[.int .i64 (i : Int)] 3)).grownBy w6 (sBlk ra) → w6.cell? ⟨rb, 0, none⟩ = some (.slice ra s.2.length rc) ∧ w6.frozen? ⟨rb, 0, none⟩ = false ∧ RcM (w6.setCell ⟨rb, 0, none⟩ (.slice (some ⟨g, off, none⟩) (s.2.length + 1) c)) lo tb hb rb n (s.1.set i true, s.2 ++ [i]) ∧ ButS (fun x => lo ≤ x) w (w6.setCell ⟨rb, 0, none⟩ (.slice (some ⟨g, off, none⟩) (s.2.length + 1) c))) := fun g off c w6 q6 gr => by
      have b6 : ButS (fun b => sBlk ra = some b) W1 w6 := ((ButS.refl _ W1).alloc _).grown gr (fun b e => .inl e)
      have n1 : ¬ sBlk ra = some rb := fun e => (Q1.ty e).2.2.ne B1.ty (by decide) rfl
      have n2 : ¬ sBlk ra = some hb := fun e => (Q1.ty e).2.2.ne S1.ty (by decide) rfl
      have n3 : ¬ sBlk ra = some tb := fun e => (Q1.ty e).2.2.ne T1.ty (by decide) rfl
      have B6 := B1.but b6 n1
      have b7 : ButS (fun b => b = rb) w6 (w6.setCell ⟨rb, 0, none⟩ (.slice (some ⟨g, off, none⟩) (s.2.length + 1) c)) := (ButS.refl (fun b => b = rb) w6).set (.inl rfl) _ _
      have hs := H.out.sep
      have T6 := T1.but b6 n3
      have S6 := S1.but b6 n2
      refine ⟨B6.cell rfl, B6.free 0, ⟨T6.but b7 (T6.ty.ne B6.ty (by decide)), S6.but b7 (S6.ty.ne B6.ty (by decide)), ⟨some ⟨g, off, none⟩, c, ?_, ?_⟩, hs⟩, ?_⟩
      · have := B6.set 0 (.slice (some ⟨g, off, none⟩) (s.2.length + 1) c)
        rw [List.length_append]
        exact this
      · rw [List.length_append, List.map_append]
        exact q6.but b7 (fun b hb2 e => by subst e; exact (q6.ty hb2).2.2.ne B6.ty (by decide) rfl)
      · exact ((b1.mono (fun b _ e => by rw [e]; exact hs.2.1)).trans ((b6.mono (fun b _ e => (Q1.ty e).1)))).trans (b7.mono (fun b _ e => by rw [e]; exact hs.2.2))
    have Q1h := Lib.hid Q1
    rw [hW1]
    clear hW1 b1 S1 B1 Q1 T1 r0 t0 s0 sf hne hrh HB HQ
    go_wp2_with (at_builtin; refine wpList_push_q W1 (i : Int) lo ra s.2.length rc _ Q1h.out hr hlo1 rfl _ _ rfl rfl rfl ?_; intro g6 o6 c6 w6 p1 p2 p3; obtain ⟨u0, u1, V2, V3⟩ := PU.out g6 o6 c6 w6 p1 p2; have V2h := Lib.hid V2; have V3h := Lib.hid V3; clear p1 p2 p3 V2 V3)
    go_end0
    exact ⟨⟨_, rfl⟩, by rw [AD.out]; exact V2h.out, V3h.out⟩
end Go.Proofs.YtlalgaioiapjmaaGreatDoor
namespace Go.Proofs.YtlalgaioiapjmaaGreatDoor
open Go.ChangeShapes Go.WideShapes Go.ChangeAt Go.RowKit
open K (adj)
theorem c_idxR (v n : Nat) (hv : v < n) (fb nb c : Nat) (w : World) (hf : w.cell? ⟨fb, 0, none⟩ = some (.int .i64 (v : Int))) (hn : w.cell? ⟨nb, 0, none⟩ = some (.int .i64 (n : Int))) :
    Calls Tryz.prog 163 #[.slice (some ⟨fb, 0, none⟩) 1 c, .func (.func 142) #[] #[.pointer (some ⟨nb, 0, none⟩)]] w fun e w' => e = .returned (.int .i64 (-1)) ∧ w' = w := by
  have C1 : Hid (Calls Tryz.prog 142 #[.int .i64 (v : Int), .pointer (some ⟨nb, 0, none⟩)] w fun e w' => e = .returned (.bool false) ∧ w' = w) := by
    have := c_rch1 (v : Int) (n : Int) nb w hn
    have h1 : decide ((v : Int) < 0) = false := by simp
    have h2 : decide ((n : Int) ≤ (v : Int)) = false := by simp; omega
    rw [h1, h2] at this
    exact this
  clear hn
  go_enter Tryz.func163, Tryz.ntmps163
  go_wp2
  go_loopw [8] (fun i wr => ∃ k : Nat, k ≤ 1 ∧ i = .int .i64 (k : Int) ∧ wr = w) (fun i _ => 1 - (intOf i).toNat)
  case atStart => exact ⟨0, by omega, rfl, rfl⟩
  case round =>
    obtain ⟨k, hk, rfl, hw⟩ := hrel
    obtain rfl := hw.symm
    by_cases hlt : k < 1
    · obtain rfl : k = 0 := by omega
      go_wp2_with (go_at_call 142; (with_reducible refine C1.out.mono ?_); rintro e w2 ⟨rfl, hw2⟩; obtain rfl := hw2.symm)
      go_roundw
      case rel => exact ⟨1, by simp⟩
      case measure => simp [intOf]
    · obtain rfl : k = 1 := by omega
      go_wp2
      go_ret
      exact ⟨rfl, rfl⟩
theorem c_conR (v n : Nat) (hv : v < n) (fb nb c : Nat) (w : World) (hf : w.cell? ⟨fb, 0, none⟩ = some (.int .i64 (v : Int))) (hn : w.cell? ⟨nb, 0, none⟩ = some (.int .i64 (n : Int))) :
    Calls Tryz.prog 141 #[.slice (some ⟨fb, 0, none⟩) 1 c, .func (.func 142) #[] #[.pointer (some ⟨nb, 0, none⟩)]] w fun e w' => e = .returned (.bool false) ∧ w' = w := by
  have C := Lib.hid (c_idxR v n hv fb nb c w hf hn)
  go_enter Tryz.func141, Tryz.ntmps141
  go_wp2_with (go_at_call 163; (with_reducible refine C.out.mono ?_); rintro e w2 ⟨rfl, hw2⟩; obtain rfl := hw2.symm)
  go_ret
  exact ⟨rfl, rfl⟩
def ReachPost (es : List K.Edge) (n v : Nat) (w : World) (e : Ending) (w' : World) : Prop := ∃ ra rc, e = .returned (.tuple #[.slice ra (rchL es n v).length rc, .int .i64 0]) ∧ IntsAt w' ra (rchL es n v).length ((rchL es n v).map fun (k : Nat) => (k : Int)) ∧ Ext w w'
theorem RInv.start (es : List K.Edge) (n v : Nat) : RInv es n v (List.replicate n false, []) := by
  have h0 : ∀ y, (List.replicate n false).getD y false = false := fun y => by
    rw [List.getD_eq_getElem?_getD, List.getElem?_replicate]
    split <;> rfl
  exact ⟨by simp, by simp, fun y hy => absurd (hy.symm.trans (h0 y)) (by simp), fun y hy => absurd (hy.symm.trans (h0 y)) (by simp)⟩
set_option maxRecDepth 100000 in
set_option maxHeartbeats 8000000 in
theorem c_reach (es : List K.Edge) (a : Option Addr) (m cap n v fb : Nat) (w : World) (he : EdgesAt w a m es) (hn : n ≤ 65536) (hok : EdgesOk n es) (hv : v < n) (hf : w.cell? ⟨fb, 0, none⟩ = some (.int .i64 (v : Int))) :
    Calls Tryz.prog 108 #[.int .i64 (n : Int), .slice (some ⟨fb, 0, none⟩) 1 1, .slice a m cap] w (ReachPost es n v w) := by
  have hok4 : ∀ e ∈ es, 0 ≤ e.src ∧ e.src < (n : Int) ∧ 0 ≤ e.dst ∧ e.dst < (n : Int) := fun e he => ⟨(hok e he).1, (hok e he).2.1, (hok e he).2.2.1, (hok e he).2.2.2.1⟩
  have ADJ : Hid (∀ x t, t ∈ adj es x → t < n) := fun x t ht => by
    obtain ⟨e, h1, rfl⟩ := List.mem_map.1 ht
    have h2 := hok4 e (List.mem_filter.1 h1).1
    omega
  have CHK : Hid (∀ W, Ext w W → Calls Tryz.prog 65 #[.int .i64 (n : Int), .slice a m cap] W fun e w' => e = .returned (.int .i64 0) ∧ Ext W w') := fun W E => c_checkG es a m cap n W (he.keep E) hn hok
  have NET : Hid (∀ W, Ext w W → Calls Tryz.prog 100 #[.int .i64 (n : Int), .slice a m cap, .bool false] W (NetPost es n W)) := fun W E => c_netOf es a m cap n W (he.keep E) hn hok4
  have CON : Hid (∀ W nb, W.cell? ⟨fb, 0, none⟩ = some (.int .i64 (v : Int)) → W.cell? ⟨nb, 0, none⟩ = some (.int .i64 (n : Int)) → Calls Tryz.prog 141 #[.slice (some ⟨fb, 0, none⟩) 1 1, .func (.func 142) #[] #[.pointer (some ⟨nb, 0, none⟩)]] W fun e w' => e = .returned (.bool false) ∧ w' = W) := fun W nb h1 h2 => c_conR v n hv fb nb 1 W h1 h2
  have hml : es.length = m := he.2.1
  have hm := he.1
  obtain ⟨j0, hj, yz0, yz1, yz2⟩ := info_parts (show (Tryz.prog.info? 4).map (fun i => (i.zero, i.size, i.bytes)) = some (some (.bool false), 1, 1) by kernel_rfl)
  have MK : ∀ W : World, (Instr.makeSlice 203 (.int .i64 (n : Int)) (.int .i64 (n : Int))).run Tryz.prog W = .ok (.slice (some ⟨W.heap.size, 0, none⟩) n n) (W.alloc (.cells (Array.replicate n (.bool false)) 4)) := fun W => mkS W _ _ j0 _ Tryz.underlying203 hj yz0 yz1 rfl n (by rw [yz2]; omega) (by unfold maxLen; omega)
  clear he hok hok4 hj yz0 yz1 yz2
  go_enter Tryz.func108, Tryz.ntmps108
  go_upto_region 1 with (fail)
  refine wp_gen (fun W hW => ?_)
  have E0 : Ext w W := by rw [hW]; exact ext_alloc (Below.refl _ _) _
  have n0 : W.cell? ⟨w.heap.size, 0, none⟩ = some (.int .i64 (n : Int)) := by rw [hW]; go_simp
  have f0 := keep E0 hf
  have CHW := Lib.hid (CHK.out W E0)
  have HE0 := Lib.hid E0
  obtain ⟨nb, hnb⟩ : ∃ nb, w.heap.size = nb := ⟨_, rfl⟩
  rw [hnb] at n0 ⊢
  clear hW CHK E0 hf hnb
  go_upto_region 6 with (first
    | (go_at_call 65; (with_reducible refine CHW.out.mono ?_); rintro e w1 ⟨rfl, E1⟩; have n1 := keep E1 n0; have f1 := keep E1 f0)
    | (go_at_call 141; (with_reducible refine (CON.out _ _ f1 n1).mono ?_); rintro e w2 ⟨rfl, hw2⟩; obtain rfl := hw2.symm)
    | fail)
  have NEW := Lib.hid (NET.out w1 (ext_trans HE0.out E1))
  have E01 : Hid (Ext w w1) := ext_trans HE0.out E1
  clear NET CON CHW n0 f0 HE0 E1
  go_upto_region 7 with (go_at_call 100; (with_reducible refine NEW.out.mono ?_); rintro e w3 ⟨gb, C, rfl, N3, hC, E3⟩; have n3 := keep E3 n1; have f3 := keep E3 f1)
  have E03 : Hid (Ext w w3) := ext_trans E01.out E3
  have HN3 := Lib.hid N3
  have HC3 := Lib.hid hC
  have MK3 := MK w3
  clear NEW E01 N3 hC E3 n1 f1 MK
  go_upto_region 10 with (fail)
  refine wp_gen (fun W4 hW4 => ?_)
  have E34 : Ext w3 W4 := by rw [hW4]; exact ext_alloc (ext_alloc (ext_alloc (Below.refl _ _) _) _) _
  obtain ⟨lo, hlo⟩ : ∃ lo, w3.heap.size = lo := ⟨_, rfl⟩
  have R4 : Hid (RcM W4 lo (lo + 1) lo (lo + 1 + 1) n (List.replicate n false, [])) := by
    have z1 : (w3.alloc (.cells (Array.replicate n (.bool false)) 4)).heap.size = lo + 1 := by simp [hlo]
    have z2 : ((w3.alloc (.cells (Array.replicate n (.bool false)) 4)).alloc (.cells #[.slice (some ⟨lo, 0, none⟩) n n] 203)).heap.size = lo + 1 + 1 := by simp [hlo]
    have s1 := Blk.made w3 n (.bool false) 4
    have s2 := Blk.new (w3.alloc (.cells (Array.replicate n (.bool false)) 4)) [.slice (some ⟨lo, 0, none⟩) n n] 203
    have s3 := Blk.new ((w3.alloc (.cells (Array.replicate n (.bool false)) 4)).alloc (.cells #[.slice (some ⟨lo, 0, none⟩) n n] 203)) [.slice none 0 0] 52
    rw [hlo] at s1 hW4
    rw [z1] at s2
    rw [z2] at s3
    show RcM W4 lo (lo + 1) lo (lo + 1 + 1) n (List.replicate n false, [])
    rw [hW4]
    refine ⟨s2.ext (ext_alloc (Below.refl _ _) _), ?_, ⟨none, 0, s3, QAt.nil _ _⟩, by omega⟩
    show Blk _ _ _ ((List.replicate n false).map Value.bool)
    rw [List.map_replicate]
    exact (s1.ext (ext_alloc (Below.refl _ _) _)).ext (ext_alloc (Below.refl _ _) _)
  rw [hlo]
  have f4 := keep E34 f3
  have HF3 := Lib.hid f3
  have n4 := keep E34 n3
  have HE4 := Lib.hid E34
  have hl4 : Hid (lo ≤ W4.heap.size) := by show _ ≤ _; rw [← hlo]; exact E34.size
  have HLO := Lib.hid hlo
  have hgl : gb < lo := by rw [← hlo]; exact (HC3.out gb HN3.out.cga).2
  clear hW4 E34 MK3 f3 n3 hlo
  have ADD : Hid (∀ (W : World) (s : List Bool × List Nat) (i : Nat), RcM W lo (lo + 1) lo (lo + 1 + 1) n s → s.1.length = n → i < n → s.2.length ≤ 1000000 → lo ≤ W.heap.size → Calls Tryz.prog 143 #[.int .i64 (i : Int), .pointer (some ⟨lo + 1, 0, none⟩), .pointer (some ⟨lo + 1 + 1, 0, none⟩)] W fun e w' => (∃ v, e = .returned v) ∧ RcM w' lo (lo + 1) lo (lo + 1 + 1) n (addS s i) ∧ ButS (fun x => lo ≤ x) W w') := fun W s i h1 h2 h3 h4 h5 => c_rch2 lo _ _ _ n i s W h1 h2 h3 h4 h5
  go_upto_block 1 with (fail)
  go_cut [] (fun wc => ∃ s, RcM wc lo (lo + 1) lo (lo + 1 + 1) n s ∧ RInv es n v s ∧ s.1.getD v false = true ∧ muR s ≤ 2 * n ∧ Ext w3 wc)
  case first =>
    go_wp2
    go_loopw [39] (fun i wr => ∃ k : Nat, k ≤ 1 ∧ i = .int .i64 (k : Int) ∧ ∃ s, RcM wr lo (lo + 1) lo (lo + 1 + 1) n s ∧ RInv es n v s ∧ (k = 1 → s.1.getD v false = true) ∧ muR s ≤ 2 * n ∧ Ext w3 wr) (fun i _ => 1 - (intOf i).toNat)
    case atStart => exact ⟨0, by omega, rfl, _, R4.out, RInv.start es n v, fun h => by omega, by simp [muR], HE4.out⟩
    case round =>
      obtain ⟨k, hk, rfl, s, rm, ri, hs, hmu, hE⟩ := hrel
      by_cases hlt : k < 1
      · obtain rfl : k = 0 := by omega
        have f5 : wr.cell? ⟨fb, 0, none⟩ = some (.int .i64 (v : Int)) := keep hE HF3.out
        have hrl : s.2.length ≤ 1000000 := by unfold muR at hmu; omega
        have hlw : lo ≤ wr.heap.size := by rw [← HLO.out]; exact hE.size
        have AW := Lib.hid (ADD.out wr s v rm ri.len hv hrl hlw)
        have NXT : Hid (∀ w', RcM w' lo (lo + 1) lo (lo + 1 + 1) n (addS s v) → ButS (fun x => lo ≤ x) wr w' → ∃ s, RcM w' lo (lo + 1) lo (lo + 1 + 1) n s ∧ RInv es n v s ∧ (1 = 1 → s.1.getD v false = true) ∧ muR s ≤ 2 * n ∧ Ext w3 w') := fun w' h1 h2 => ⟨_, h1, ri.add hv (RchR.refl v), fun _ => (addS_has ri.len hv).1, Nat.le_trans (addS_mu ri.len hv) hmu, ext_of_but hE h2 (fun c hc q => by have := HLO.out; omega)⟩
        clear rm ri hs hmu hE hrl hlw
        go_wp2_with (go_at_call 143; (with_reducible refine AW.out.mono ?_); rintro e w5 ⟨⟨v5, rfl⟩, hr5, hb5⟩; have NX := Lib.hid (NXT.out _ hr5 hb5); clear hr5 hb5)
        go_roundw
        case rel => exact ⟨1, by omega, by go_num, by simpa using NX.out⟩
        case measure => simp [intOf]
      · obtain rfl : k = 1 := by omega
        have FIN : Hid (∃ s, RcM wr lo (lo + 1) lo (lo + 1 + 1) n s ∧ RInv es n v s ∧ s.1.getD v false = true ∧ muR s ≤ 2 * n ∧ Ext w3 wr) := ⟨s, rm, ri, hs rfl, hmu, hE⟩
        clear rm ri hs hmu hE
        go_wp2
        go_meet
        exact FIN.out
  obtain ⟨s1, rm1, ri1, hs1, hmu1, hE1⟩ := hcut
  have ST1 := Lib.hid (And.intro rm1 (And.intro ri1 (And.intro hs1 (And.intro hmu1 hE1))))
  clear rm1 ri1 hs1 hmu1 hE1 f4 n4 R4 HE4 hl4
  go_upto_block 3 with (fail)
  go_cut [] (fun wc => ∃ s, RcM wc lo (lo + 1) lo (lo + 1 + 1) n s ∧ RInv es n v s ∧ s.1.getD v false = true ∧ s.2 = [] ∧ Ext w3 wc)
  case first =>
    go_wp2
    go_loopg [47] (2 * n) (fun gg _ wr => ∃ s, RcM wr lo (lo + 1) lo (lo + 1 + 1) n s ∧ RInv es n v s ∧ s.1.getD v false = true ∧ muR s ≤ gg ∧ gg ≤ 2 * n ∧ Ext w3 wr)
    case atStart => exact ⟨s1, ST1.out.1, ST1.out.2.1, ST1.out.2.2.1, ST1.out.2.2.2.1, Nat.le_refl _, ST1.out.2.2.2.2⟩
    case round =>
      obtain ⟨s, rm, ri, hs, hmu, hg2, hE⟩ := hrel
      obtain ⟨sn, rw_⟩ := s
      cases rw_ with
      | nil =>
        obtain ⟨ra, rc, hB, hQ⟩ := rm.row
        have r0 : wr.cell? ⟨lo + 1 + 1, 0, none⟩ = some (.slice ra 0 rc) := hB.cell (i := 0) rfl
        have FIN : Hid (∃ s, RcM wr lo (lo + 1) lo (lo + 1 + 1) n s ∧ RInv es n v s ∧ s.1.getD v false = true ∧ s.2 = [] ∧ Ext w3 wr) := ⟨_, rm, ri, hs, rfl, hE⟩
        clear rm ri hs hmu hE hB hQ
        go_wp2
        go_meet
        exact FIN.out
      | cons x r =>
        obtain ⟨ra, rc, hB, hQ⟩ := rm.row
        rw [List.map_cons] at hQ
        obtain ⟨qb, qo, hra, hx0, hln, hlc, hcm, hQ2⟩ := hQ.head
        have hxn : x < n := (ri.row x (List.mem_cons_self ..)).1
        have hxi : (x : Int) < (n : Int) := by omega
        subst hra
        rw [List.length_map] at hln
        have r0 := hB.cell (i := 0) rfl
        have hpos : (0 : Int) < ((x :: r).length : Int) := by simp only [List.length_cons]; omega
        obtain ⟨fv, N1, N2⟩ := HN3.out.each
        obtain ⟨y1, y2, y3, y4⟩ := N1 x hxn
        obtain ⟨ga, gc, hgv, hgc⟩ := own_form y3
        rw [hgv] at y1 y3
        obtain ⟨L, hL⟩ : ∃ L, (adj es x).length = L := ⟨_, rfl⟩
        rw [hL] at y1 y3 hgc
        have hLn : L ≤ 1048576 := by
          have := adj_len es x
          rw [hL] at this
          omega
        have hLm : L ≤ maxLen := by unfold maxLen; omega
        have y1 := keep hE y1
        have IN := Lib.hid (own_ints (xs := (adj es x).map fun (k : Nat) => (k : Int)) (by rw [List.map_map]; exact y3) hLm)
        obtain ⟨rl, hrl⟩ : ∃ rl, (x :: r).length = rl := ⟨_, rfl⟩
        have ST2 := Lib.hid (And.intro rm (And.intro ri (And.intro hs (And.intro hmu (And.intro hg2 hE)))))
        rw [hrl] at r0 hpos
        have HL := Lib.hid hL
        have HRL := Lib.hid hrl
        clear rm ri hs hmu hE hB hQ N1 N2 y2 y3 y4 hgv hQ2 hL hrl hg2
        have hlim : (0 : Int) < (rl : Int) := hpos
        clear hln hlc hcm hpos
        go_wp2
        go_loopw [59] (fun jv wj => ∃ j : Nat, j ≤ L ∧ jv = .int .i64 (j : Int) ∧ ∃ s2 : List Bool × List Nat, ∃ r2, s2.2 = x :: r2 ∧ RcM wj lo (lo + 1) lo (lo + 1 + 1) n s2 ∧ RInv es n v s2 ∧ s2.1.getD v false = true ∧ muR s2 ≤ gk ∧ (∀ t ∈ (adj es x).take j, s2.1.getD t false = true) ∧ Ext w3 wj) (fun jv _ => L - (intOf jv).toNat)
        case atStart => exact ⟨0, Nat.zero_le _, rfl, (sn, x :: r), r, rfl, ST2.out.1, ST2.out.2.1, ST2.out.2.2.1, ST2.out.2.2.2.1, by simp, ST2.out.2.2.2.2.2⟩
        case round =>
          obtain ⟨j, hj, rfl, s2, r2, hs2, rm, ri, hs, hmu, hall, hE⟩ := hrel
          by_cases hjl : j < L
          · have hji : (j : Int) < (L : Int) := by omega
            obtain ⟨z, eb, eo, hz, hga, hc⟩ := (IN.out.keep hE).2.at hjl
            rw [List.getElem?_map] at hz
            obtain ⟨t, ht, rfl⟩ := Option.map_eq_some_iff.1 hz
            subst hga
            have hc : wr.cell? ⟨eb, eo + j, none⟩ = some (.int .i64 (t : Int)) := by simpa [intAt] using hc
            have htn : t < n := ADJ.out x t (List.mem_of_getElem? ht)
            have hrl2 : s2.2.length ≤ 1000000 := by have h1 := ST2.out.2.2.2.2.1; unfold muR at hmu; omega
            have hlw : lo ≤ wr.heap.size := by rw [← HLO.out]; exact hE.size
            have AW := Lib.hid (ADD.out wr s2 t rm ri.len htn hrl2 hlw)
            have hrx : K.adj es x = adj es x := rfl
            have hvx : RchR es v t := .step (ri.rch x (ri.row x (by rw [hs2]; exact List.mem_cons_self ..)).2) (List.mem_of_getElem? ht)
            have NXT : Hid (∀ w', RcM w' lo (lo + 1) lo (lo + 1 + 1) n (addS s2 t) → ButS (fun x => lo ≤ x) wr w' → ∃ s3 : List Bool × List Nat, ∃ r3, s3.2 = x :: r3 ∧ RcM w' lo (lo + 1) lo (lo + 1 + 1) n s3 ∧ RInv es n v s3 ∧ s3.1.getD v false = true ∧ muR s3 ≤ gk ∧ (∀ t ∈ (adj es x).take (j + 1), s3.1.getD t false = true) ∧ Ext w3 w') := fun w' h1 h2 => by
              have hh := addS_has ri.len htn
              refine ⟨addS s2 t, ?_⟩
              obtain ⟨r3, h3⟩ : ∃ r3, (addS s2 t).2 = x :: r3 := by
                unfold addS
                split
                · exact ⟨r2, hs2⟩
                · exact ⟨r2 ++ [t], by simp [hs2]⟩
              refine ⟨r3, h3, h1, ri.add htn hvx, hh.2 v hs, Nat.le_trans (addS_mu ri.len htn) hmu, fun y hy => ?_, ext_of_but hE h2 (fun c hc q => by have := HLO.out; omega)⟩
              rw [take_at ht] at hy
              rcases List.mem_append.1 hy with hy | hy
              · exact hh.2 y (hall y hy)
              · rw [List.mem_singleton.1 hy]; exact hh.1
            have HJ := Lib.hid hjl
            clear rm ri hs hmu hall hE hrl2 hlw hs2 hrx hvx hz
            go_wp2_with (go_at_call 143; (with_reducible refine AW.out.mono ?_); rintro e w5 ⟨⟨v5, rfl⟩, hr5, hb5⟩; have NX := Lib.hid (NXT.out _ hr5 hb5); clear hr5 hb5)
            go_roundw
            case rel => exact ⟨j + 1, by have := HJ.out; omega, by go_num, NX.out⟩
            case measure => have := HJ.out; simp [intOf]; omega
          · have hji : ¬ (j : Int) < (L : Int) := by omega
            clear r0 hlim
            obtain rfl : j = L := by omega
            obtain ⟨ra, rc, hB, hQ⟩ := rm.row
            rw [hs2, List.map_cons] at hQ
            obtain ⟨qb2, qo2, hra, hx2, hln2, hlc2, hcm2, hQ2⟩ := hQ.head
            subst hra
            have r5 := hB.cell (i := 0) rfl
            have rf := hB.free 0
            rw [hs2] at r5
            have q1 : (1 : Int) ≤ ((r2.length + 1 : Nat) : Int) := by omega
            have hlc3 : r2.length + 1 ≤ rc := hlc2
            have q2 : ((r2.length + 1 : Nat) : Int) ≤ (rc : Int) := by omega
            rw [List.length_map] at hQ2
            have HQ2 := Lib.hid hQ2
            have ST3 := Lib.hid (And.intro rm (And.intro ri (And.intro hs (And.intro hmu (And.intro hall hE)))))
            have HB5 := Lib.hid hB
            have HS2 := Lib.hid hs2
            have r5 : wr.cell? ⟨lo + 1 + 1, 0, none⟩ = some (.slice (some ⟨qb2, qo2, none⟩) (r2.length + 1) rc) := r5
            clear rm ri hs hmu hall hE hB hQ hQ2 hs2 hlc2 hln2 hx2 hjl hji hj
            have ROW : Hid (∀ ra2 rc2, QAt wr lo ra2 r2.length rc2 (r2.map fun (k : Nat) => (k : Int)) → sBlk ra2 = some qb2 → ∃ s3 : List Bool × List Nat, RcM (wr.setCell ⟨lo + 1 + 1, 0, none⟩ (.slice ra2 r2.length rc2)) lo (lo + 1) lo (lo + 1 + 1) n s3 ∧ RInv es n v s3 ∧ s3.1.getD v false = true ∧ muR s3 ≤ gk - 1 ∧ gk - 1 ≤ 2 * n ∧ Ext w3 (wr.setCell ⟨lo + 1 + 1, 0, none⟩ (.slice ra2 r2.length rc2))) := fun ra2 rc2 hq hb => by
              obtain ⟨rm, ri, hs, hmu, hall, hE⟩ := ST3.out
              have hS := HS2.out
              have b7 : ButS (fun b => b = lo + 1 + 1) wr (wr.setCell ⟨lo + 1 + 1, 0, none⟩ (.slice ra2 r2.length rc2)) := (ButS.refl (fun b => b = lo + 1 + 1) wr).set (.inl rfl) _ _
              have hj2 : ∀ t ∈ adj es x, s2.1.getD t false = true := fun t ht => hall t (by rw [List.take_of_length_le (by rw [HL.out]; exact Nat.le_refl _)]; exact ht)
              refine ⟨(s2.1, r2), ⟨rm.tbl.but b7 (by omega), rm.seen.but b7 (by omega), ⟨ra2, rc2, HB5.out.set 0 _, hq.but b7 (fun b hb2 e => ?_)⟩, rm.sep⟩, ri.pop hS hj2, hs, ?_, ?_, ext_of_but hE b7 (fun c hc q => by have := HLO.out; omega)⟩
              · rw [hb] at hb2
                cases hb2
                subst e
                exact (hq.ty hb).2.2.ne HB5.out.ty (by decide) rfl
              · unfold muR at hmu ⊢
                rw [hS, List.length_cons] at hmu
                simp only
                omega
              · have := ST2.out.2.2.2.2.1
                omega
            have hgk : Hid (gk - 1 < gk) := by
              have h1 := ST2.out.2.2.2.1
              unfold muR at h1
              rw [List.length_cons] at h1
              show _ < _
              omega
            go_wp2
            · rename_i hrc
              have hr0 : r2 = [] := List.eq_nil_of_length_eq_zero (by omega)
              have NX := ROW.out (some ⟨qb2, qo2, none⟩) 0 (by
                obtain ⟨h1, h2⟩ := HQ2.out
                rcases h2 with ⟨h3, _⟩ | ⟨b, off, cs, h3, k2, k3, k4, k5, k6, k7⟩
                · cases h3
                · cases h3
                  subst hr0
                  exact ⟨rfl, .inr ⟨qb2, qo2, cs, rfl, k2, k3, Nat.le_refl _, by omega, by omega, by simp⟩⟩) rfl
              go_roundg (gk - 1)
              case measure => exact hgk.out
              case rel => exact NX
            · have NX := ROW.out (some ⟨qb2, qo2 + 1, none⟩) (rc - 1) HQ2.out rfl
              go_roundg (gk - 1)
              case measure => exact hgk.out
              case rel => exact NX
  obtain ⟨s2, rm2, ri2, hs2, hr2, hE2⟩ := hcut
  obtain ⟨sn2, rw2⟩ := s2
  have hr2 : rw2 = [] := hr2
  subst hr2
  have DON : Hid (∀ y, sn2.getD y false = true ↔ RchR es v y) := fun y => ri2.done hs2 y
  have hsl : sn2.length = n := ri2.len
  have t2 := rm2.tbl.cell (i := 0) rfl
  have SN := Lib.hid rm2.seen
  have HE2 := Lib.hid hE2
  clear rm2 ri2 hs2 hE2 ST1 ADD
  obtain ⟨fo, hfo⟩ : ∃ fo : Nat → List Nat, ∀ i, fo i = (List.range i).filter fun y => sn2.getD y false := ⟨fun i => (List.range i).filter fun y => sn2.getD y false, fun _ => rfl⟩
  have FO := Lib.hid hfo
  have FOS : Hid (∀ i, fo (i + 1) = if sn2.getD i false = true then fo i ++ [i] else fo i) := fun i => by
    rw [hfo, hfo, List.range_succ, List.filter_append]
    by_cases h : sn2.getD i false = true
    · rw [if_pos h, List.filter_cons, if_pos (by simpa using h)]; rfl
    · rw [if_neg h, List.filter_cons, if_neg (by simpa using h)]; simp
  have FOL : Hid (∀ i, (fo i).length ≤ i) := fun i => by
    rw [hfo]
    have := List.length_filter_le (fun y => sn2.getD y false) (List.range i)
    rwa [List.length_range] at this
  have FO0 : fo 0 = [] := by rw [hfo]; rfl
  have FON : Hid (fo n = rchL es n v) := by
    show _ = _
    rw [hfo]
    unfold rchL
    refine List.filter_congr (fun y _ => ?_)
    rw [Bool.eq_iff_iff]
    rw [DON.out y]
    simp
  clear hfo
  go_wp2
  go_loopw [12, 69] (fun ov iv wr => ∃ i : Nat, i ≤ n ∧ iv = .int .i64 (i : Int) ∧ ∃ oa oc, ov = .slice oa (fo i).length oc ∧ wr.ownsRow wc.heap.size 3 1 (.slice oa (fo i).length oc) (fo i).length ((fo i).map numV) ∧ Ext wc wr) (fun _ iv _ => n - (intOf iv).toNat)
  case atStart => exact ⟨0, Nat.zero_le _, rfl, none, 0, by rw [FO0]; rfl, by rw [FO0]; exact World.ownsRow_nil _ _ _ _, Below.refl _ _⟩
  case round =>
    obtain ⟨i, hi, rfl, oa, oc, rfl, own, hE⟩ := hrel
    have OW := Lib.hid own
    have HEW := Lib.hid hE
    by_cases hlt : i < n
    · have hii : (i : Int) < (n : Int) := by omega
      have hisl : i < sn2.length := by omega
      have s0 : wr.cell? ⟨lo, i, none⟩ = some (.bool (sn2.getD i false)) := keep hE (SN.out.cell (by rw [List.getElem?_map, List.getElem?_eq_getElem hisl, List.getD_eq_getElem?_getD, List.getElem?_eq_getElem hisl]; rfl))
      have FS := Lib.hid (FOS.out i)
      have hfl := FOL.out i
      obtain ⟨fl, hfle⟩ : ∃ fl, (fo i).length = fl := ⟨_, rfl⟩
      rw [hfle] at OW hfl
      have hfl2 : fl ≤ 2000000 := by omega
      have hbs : wc.heap.size ≤ wr.heap.size := hE.size
      have HFL := Lib.hid hfle
      rw [hfle]
      obtain ⟨b, hb⟩ : ∃ b, sn2.getD i false = b := ⟨_, rfl⟩
      rw [hb] at s0 FS
      clear own hE hb hisl hfle t2
      cases b with
      | true =>
        have PU : Hid (∀ g c w6, w6.ownsRow wc.heap.size 3 1 (.slice (some ⟨g, 0, none⟩) (fl + 1) c) (fl + 1) ((fo i).map numV ++ [intV (i : Int)]) → (wr.alloc (.cells #[.int .i64 (i : Int)] 3)).grownBy w6 (Value.slice oa fl oc).ownBlock → ∃ oa2 oc2, Value.slice (some ⟨g, 0, none⟩) (fl + 1) c = .slice oa2 (fo (i + 1)).length oc2 ∧ w6.ownsRow wc.heap.size 3 1 (.slice oa2 (fo (i + 1)).length oc2) (fo (i + 1)).length ((fo (i + 1)).map numV) ∧ Ext wc w6) := fun g c w6 h1 h2 => by
          have e1 : fo (i + 1) = fo i ++ [i] := by rw [FS.out, if_pos rfl]
          have e2 : (fo (i + 1)).length = fl + 1 := by rw [e1, List.length_append, HFL.out]; rfl
          refine ⟨some ⟨g, 0, none⟩, c, by rw [e2], ?_, ext_ownB (ext_alloc HEW.out _) h2 (fun b hb => (OW.out.lt b hb).1)⟩
          rw [e2, e1, List.map_append]
          exact h1
        clear FS
        go_wp2_with (at_builtin; refine wpList_push_int wr (i : Int) wc.heap.size oa fl oc _ OW.out hfl2 hbs rfl _ _ rfl rfl rfl ?_; intro g6 c6 w6 p1 p2 p3; have P6 := Lib.hid (PU.out g6 c6 w6 p1 p2); clear p1 p2 p3)
        go_roundw
        case rel => exact ⟨i + 1, by omega, by go_num, P6.out⟩
        case measure => simp [intOf]; omega
      | false =>
        have e1 : fo (i + 1) = fo i := by rw [FS.out, if_neg (by simp)]
        have P6 : Hid (∃ oa2 oc2, Value.slice oa fl oc = .slice oa2 (fo (i + 1)).length oc2 ∧ wr.ownsRow wc.heap.size 3 1 (.slice oa2 (fo (i + 1)).length oc2) (fo (i + 1)).length ((fo (i + 1)).map numV) ∧ Ext wc wr) := by
          show ∃ oa2 oc2, _
          rw [e1, HFL.out]
          exact ⟨oa, oc, rfl, OW.out, HEW.out⟩
        clear FS e1
        go_wp2
        go_roundw
        case rel => exact ⟨i + 1, by omega, by go_num, P6.out⟩
        case measure => simp [intOf]; omega
    · obtain rfl : i = n := by omega
      have hii : ¬ (i : Int) < (i : Int) := by omega
      have FIN : Hid (ReachPost es i v w (.returned (.tuple #[.slice oa (fo i).length oc, .int .i64 0])) wr) := by
        show ReachPost es i v w _ wr
        rw [FON.out]
        have o9 := OW.out
        rw [FON.out] at o9
        refine ⟨oa, oc, rfl, own_ints (by rw [List.map_map]; exact o9) ?_, ext_trans (ext_trans E03.out HE2.out) HEW.out⟩
        have h1 := FOL.out i
        rw [FON.out] at h1
        unfold maxLen
        omega
      clear own hE
      go_wp2
      go_returns
      exact FIN.out
end Go.Proofs.YtlalgaioiapjmaaGreatDoor
