/- The law's cases in memory; the walks of great, rows, order. -/
import Derived.Test.YthjpfplebbnbpaaGreatBuild
import Derived.Test.YthjpfplebbnbpaaGreatDrop
namespace Go.Proofs.YthjpfplebbnbpaaGreat
open Go.ChangeShapes Go.WideShapes Go.ChangeAt Go.RowKit
/-- A row as a case holds it. -/
def rowC (w : World) (b o : Nat) (r : List ByteArray) : Prop := ∃ (a : Option Addr) (n c : Nat), w.cell? ⟨b, o, none⟩ = some (.slice a n c) ∧ StrsAt w a n r ∧ (a = none → n = 0 ∧ c = 0) ∧ n ≤ 8796093022207
theorem rowC.keep {W w : World} (hb : Ext W w) {b o : Nat} {r : List ByteArray} (h : rowC W b o r) : rowC w b o r := by
  obtain ⟨a, n, c, h1, h2, h3⟩ := h
  exact ⟨a, n, c, YthjpfplebbnbpaaGreat.keep hb h1, h2.keep hb, h3⟩
structure CaseV where
  ar : Int
  ra : Option Addr
  rn : Nat
  rc : Nat
  oa : Option Addr
  on : Nat
  oc : Nat
def CaseV.v (x : CaseV) : Value := .agg #[.int .i64 x.ar, .slice x.ra x.rn x.rc, .slice x.oa x.on x.oc]
/-- A case: rows and an order, as they lie. -/
structure CaseAt (w : World) (x : CaseV) (rows : List (List ByteArray)) (os : List Int) : Prop where
  rows : SliceAt rowC 1 w x.ra x.rn rows
  rmax : x.rn ≤ maxLen
  order : IntsAt w x.oa x.on os
  nil : x.oa = none → x.on = 0 ∧ x.oc = 0
  room : x.on ≤ 17592186043904
theorem CaseAt.keep {W w : World} (hb : Ext W w) {x : CaseV} {rows : List (List ByteArray)} {os : List Int} (h : CaseAt W x rows os) : CaseAt w x rows os := ⟨h.rows.keep fun _ _ _ => rowC.keep hb, h.rmax, h.order.keep hb, h.nil, h.room⟩
/-- The rows that layer 3 takes. -/
def rowsM (ar : Nat) (rows : List (List ByteArray)) : List (List ByteArray) := rows.foldl (addRow ar) []
theorem rowsM_snoc (ar : Nat) (rows : List (List ByteArray)) (r : List ByteArray) : rowsM ar (rows ++ [r]) = addRow ar (rowsM ar rows) r := by simp [rowsM]
theorem rowsM_facts (ar : Nat) (rows : List (List ByteArray)) : Rising (rowsM ar rows) ∧ (∀ r ∈ rowsM ar rows, r.length = ar) ∧ (rowsM ar rows).length ≤ rows.length := by
  refine snoc_ind (P := fun rows => Rising (rowsM ar rows) ∧ (∀ r ∈ rowsM ar rows, r.length = ar) ∧ (rowsM ar rows).length ≤ rows.length) ⟨List.Pairwise.nil, fun r hr => by simp [rowsM] at hr, Nat.le_refl _⟩ (fun l x ⟨h1, h2, h3⟩ => ?_) rows
  rw [rowsM_snoc]
  refine ⟨addRow_rising h1 x, fun r hr => ?_, ?_⟩
  · unfold addRow at hr
    split at hr
    · rename_i h
      rcases (putRow_mem h1 x r).1 hr with rfl | h4
      · exact h.1
      · exact h2 r h4
    · exact h2 r hr
  · have := addRow_len ar (rowsM ar l) x
    rw [List.length_append, List.length_singleton]
    omega
theorem c_great (x : CaseV) (w : World) : Calls Tryz.prog 5 #[x.v] w fun e w' => e = .returned (.bool (decide (400 < x.rn))) ∧ Ext w w' := by
  obtain ⟨ar, ra, rn, rc, oa, on, oc⟩ := x
  unfold CaseV.v
  dsimp only
  obtain ⟨b, hb⟩ : ∃ b, decide (400 < rn) = b := ⟨_, rfl⟩
  have hb2 : decide ((400 : Int) < (rn : Int)) = b := by rw [← hb, decide_eq_decide]; omega
  rw [hb]
  clear hb
  go_enter Tryz.func5, Tryz.ntmps5
  go_wp2
  go_returns
  exact ⟨by first | rfl | (simp [hb2]), ext_alloc (Below.refl _ _) _⟩
def RowsPost (x : CaseV) (rows : List (List ByteArray)) (w : World) (e : Ending) (w' : World) : Prop := Ext w w' ∧ ∃ p a n c, e = .returned (.tuple #[.pointer p, .slice a n c]) ∧
  ((¬ (0 ≤ x.ar ∧ x.ar ≤ 64) ∧ p = none ∧ a = none ∧ n = 0 ∧ c = 0) ∨
  (∃ ar : Nat, x.ar = (ar : Int) ∧ ar ≤ 64 ∧ n = (rowsM ar rows).length ∧ ∃ pb lo B us, p = some ⟨pb, 0, none⟩ ∧ w.heap.size ≤ pb ∧ RowsV w' lo pb ar (rowsM ar rows) ∧ lo ≤ w'.heap.size ∧ LowList w' pb B ∧ B ≤ w'.heap.size ∧ w'.ownsRow B 46 1 (.slice a n c) n us ∧ RowsAt B w' us (rowsM ar rows)))
theorem nil_eqW (w : World) : (binOp .eql 57 (.pointer none) (.pointer none)).run Tryz.prog w = .ok (.bool true) w := by kernel_rfl
set_option maxRecDepth 100000 in
set_option maxHeartbeats 1000000 in
theorem c_rowsL (x : CaseV) (rows : List (List ByteArray)) (os : List Int) (w : World) (h : CaseAt w x rows os) (hn : x.rn ≤ 400) :
    Calls Tryz.prog 18 #[x.v] w (RowsPost x rows w) := by
  obtain ⟨ar0, ra, rn, rc, oa, on, oc⟩ := x
  unfold CaseV.v
  have HR := Lib.hid h.rows
  clear h
  dsimp only at HR hn ⊢
  by_cases har : 0 ≤ ar0 ∧ ar0 ≤ 64
  · obtain ⟨ar, rfl⟩ : ∃ ar : Nat, ar0 = (ar : Int) := ⟨ar0.toNat, by omega⟩
    have har64 : ar ≤ 64 := by omega
    have NR : Hid (∀ w1 : World, Calls Tryz.prog 51 #[.int .i64 (ar : Int)] w1 fun e w' => e = .returned (.tuple #[.pointer (some ⟨w1.heap.size, 0, none⟩), .int .i64 0]) ∧ RowsV w' w'.heap.size w1.heap.size ar [] ∧ Ext w1 w') := fun w1 => c_newRows ar har64 w1
    clear har
    go_enter Tryz.func18, Tryz.ntmps18
    go_wp2_with (go_at_call 51; (with_reducible refine (NR.out _).mono ?_); rintro e w1 ⟨rfl, hr1, hE1⟩)
    refine wp_gen (fun W1 hW1 => ?_)
    have E1 : Hid (Ext w W1) := by show Ext _ _; rw [hW1]; exact ext_trans (ext_alloc (Below.refl _ _) _) hE1
    have x1 : W1.cell? ⟨w.heap.size, 1, none⟩ = some (.slice ra rn rc) := by rw [hW1]; exact keep hE1 (by go_simp)
    have R1 : Hid (RowsV W1 w1.heap.size (w.heap.size + 1) ar []) := by
      show RowsV _ _ _ _ _
      rw [hW1]
      simpa using hr1
    have hz : w.heap.size + 1 < w1.heap.size := R1.out.lt
    have hz2 : Hid (w1.heap.size ≤ W1.heap.size) := by show _ ≤ _; rw [hW1]; exact Nat.le_refl _
    clear hW1 hr1 hE1
    obtain ⟨lo, hlo⟩ : ∃ lo, w1.heap.size = lo := ⟨_, rfl⟩
    rw [hlo] at R1 hz hz2
    obtain ⟨pb, hpb⟩ : ∃ pb, w.heap.size + 1 = pb := ⟨_, rfl⟩
    rw [hpb] at R1 hz ⊢
    have hpbw : w.heap.size < pb := by omega
    clear hlo hpb NR
    go_loopw [6] (fun v wj => ∃ i : Nat, i ≤ rn ∧ v = .int .i64 (i : Int) ∧ RowsV wj lo pb ar (rowsM ar (rows.take i)) ∧ ButS (fun b => b = pb ∨ lo ≤ b) W1 wj) (fun v _ => rn - (intOf v).toNat)
    case atStart => exact ⟨0, Nat.zero_le _, rfl, R1.out, ButS.refl _ _⟩
    case round =>
      obtain ⟨i, hi, rfl, hrv, hbt⟩ := hrel
      have RV := Lib.hid hrv
      have BT := Lib.hid hbt
      have hE : Ext w wr := ext_of_but E1.out hbt (fun b hb => by omega)
      have x2 := hbt.cell (by omega) x1
      have hlow : lo ≤ wr.heap.size := Nat.le_trans hz2.out hbt.size
      obtain ⟨fr, fl, fc⟩ := rowsM_facts ar (rows.take i)
      have fcl : (rowsM ar (rows.take i)).length ≤ i := by rw [List.length_take] at fc; omega
      by_cases hlt : i < rn
      · have hlti : (i : Int) < (rn : Int) := by omega
        obtain ⟨r, b1, o1, hx, rfl, a5, n5, c5, g1, g2, g3, _⟩ := (HR.out.keep (fun _ _ _ => rowC.keep hE)).at hlt
        have g1 : wr.cell? ⟨b1, o1 + i, none⟩ = some (.slice a5 n5 c5) := by simpa using g1
        have AD := Lib.hid (c_addR lo pb ar (rowsM ar (rows.take i)) r a5 n5 c5 wr RV.out fr g2 g3 har64 (by omega) hlow)
        have ST : Hid (rowsM ar (rows.take (i + 1)) = addRow ar (rowsM ar (rows.take i)) r) := by show _ = _; rw [take_at hx, rowsM_snoc]
        clear hrv hbt hE hx g2 g3 fr fl fc
        go_wp2_with (go_at_call 52; (with_reducible refine AD.out.mono ?_); rintro e w3 ⟨⟨b3, k3, rfl⟩, r3, b4⟩)
        go_roundw
        case rel => exact ⟨i + 1, by omega, by go_num, by rw [ST.out]; exact r3, BT.out.trans b4⟩
        case measure => simp [intOf]; omega
      · obtain rfl : i = rn := by omega
        have hge : ¬ (i : Int) < (i : Int) := by omega
        have ht : rows.take i = rows := List.take_of_length_le (by rw [HR.out.1]; exact Nat.le_refl _)
        rw [ht] at RV fl fcl
        have AL := Lib.hid (c_all lo pb ar (rowsM ar rows) wr RV.out (by omega) (fun r hr => by rw [fl r hr]; omega))
        have EX := Lib.hid hE
        clear hrv hbt hE fr fl fc ht
        go_wp2_with (go_at_call 53; (with_reducible refine AL.out.mono ?_); rintro e w3 ⟨a3, c3, us, rfl, o3, r3, e3⟩)
        go_ret2
        exact ⟨ext_trans EX.out e3, _, a3, _, c3, rfl, .inr ⟨ar, rfl, har64, rfl, pb, lo, wr.heap.size, us, rfl, by omega, RV.out.ext e3, Nat.le_trans hlow e3.size, ⟨Nat.lt_of_lt_of_le RV.out.lt hlow, fun v b hv hb => by
          obtain ⟨a9, c9, vs9, y1, y2, _⟩ := RV.out.row
          rw [keep e3 y1] at hv
          cases hv
          exact (y2.lt b hb).2⟩, e3.size, o3, r3⟩⟩
  · have NR : Hid (∀ w1 : World, Calls Tryz.prog 51 #[.int .i64 ar0] w1 fun e w' => e = .returned (.tuple #[.pointer none, .int .i64 2]) ∧ w' = w1) := fun w1 => c_newRows_no ar0 (by omega) w1
    have HB := Lib.hid har
    clear har
    go_enter Tryz.func18, Tryz.ntmps18
    go_wp2_with (go_at_call 51; (with_reducible refine (NR.out _).mono ?_); rintro e w1 ⟨rfl, hw1⟩; obtain rfl := hw1.symm)
    go_ret2
    exact ⟨ext_alloc (Below.refl _ _) _, none, none, 0, 0, rfl, .inl ⟨HB.out, rfl, rfl, rfl, rfl⟩⟩
def OrdPost (x : CaseV) (os : List Int) (w : World) (e : Ending) (w' : World) : Prop := ∃ g c, e = .returned (.slice (some ⟨g, 0, none⟩) x.on c) ∧ w'.ownsRow w.heap.size 3 1 (.slice (some ⟨g, 0, none⟩) (x.on + 1) c) (x.on + 1) ((os ++ [-77]).map intV) ∧ Ext w w'
theorem int_cells {w : World} {a : Option Addr} {n : Nat} {xs : List Int} (h : IntsAt w a n xs) : (xs.map intV).length = n * 1 ∧ (∀ ad, a = some ad → ∀ j u, (xs.map intV)[j]? = some u → w.cell? (ad.add j) = some u) ∧ ∀ u ∈ xs.map intV, u.oneCell' = true := by
  refine ⟨by rw [List.length_map, h.2.1, Nat.mul_one], fun ad e j u hu => ?_, fun u hu => ?_⟩
  · rw [List.getElem?_map] at hu
    obtain ⟨x, hx, rfl⟩ := Option.map_eq_some_iff.1 hu
    obtain ⟨b, off, e2, hc⟩ := h.2.2 j x hx
    rw [e] at e2
    cases e2
    rw [Addr.add_lit]
    simpa [intAt] using hc
  · obtain ⟨x, _, rfl⟩ := List.mem_map.1 hu
    rfl
set_option maxRecDepth 100000 in
theorem c_orderL (x : CaseV) (rows : List (List ByteArray)) (os : List Int) (w : World) (h : CaseAt w x rows os) :
    Calls Tryz.prog 19 #[x.v] w (OrdPost x os w) := by
  obtain ⟨ar0, ra, rn, rc, oa, on, oc⟩ := x
  unfold CaseV.v
  have HO := Lib.hid h.order
  have HN := Lib.hid h.nil
  have hroom := h.room
  clear h
  dsimp only at HO HN hroom ⊢
  obtain ⟨n0, hn0, nz0, nz1, nz2⟩ := info_parts info_int
  have E0 : Ext w (w.alloc (.cells #[.int .i64 ar0, .slice ra rn rc, .slice oa on oc] 25)) := ext_alloc (Below.refl _ _) _
  obtain ⟨il, ic, io⟩ := int_cells (HO.out.keep E0)
  have IL := Lib.hid il
  have IC := Lib.hid ic
  have IO := Lib.hid io
  have B1 : Hid (0 + on ≤ maxLen) := by show _ ≤ _; unfold maxLen; omega
  have B2 : Hid ((0 + on) * 8 ≤ 140737488355328) := by show _ ≤ _; omega
  have B3 : Hid (on + 1 ≤ maxLen) := by show _ ≤ _; unfold maxLen; omega
  have B4 : Hid ((on + 1) * 8 ≤ 140737488355328) := by show _ ≤ _; omega
  have HL : Hid (os.length = on) := HO.out.2.1
  clear il ic io E0
  go_enter Tryz.func19, Tryz.ntmps19
  go_upto_region 3 with (at_builtin; (first
    | (refine wpList_append_any rfl _ _ 23 rfl w.heap.size 3 n0 (.int .i64 0) 1 8 Tryz.underlying23 hn0 nz0 nz1 nz2 rfl (by decide) (.slice none 0 0) 0 [] rfl (World.ownsRow_nil _ _ _ _) oa on oc (os.map intV) rfl HN.out IL.out IC.out IO.out B1.out B2.out (by simp) ?_; intro v1 w1 own1 gr1; rw [Nat.zero_add, List.nil_append] at own1; have OW1 := Lib.hid (own1.alloc (.cells #[.int .i64 (-77)] 3)); have hz1 : w.heap.size ≤ w1.heap.size := (Nat.le_trans (by simp) gr1.size); have N1 := Lib.hid (news1 w1 (.int .i64 (-77)) 3))
    | (refine wpList_append_any rfl _ _ 23 rfl w.heap.size 3 n0 (.int .i64 0) 1 8 Tryz.underlying23 hn0 nz0 nz1 nz2 rfl (by decide) v1 on (os.map intV) rfl OW1.out (some ⟨w1.heap.size, 0, none⟩) 1 1 [.int .i64 (-77)] rfl (by intro h; cases h) rfl (fun ad e => by cases e; exact N1.out) (by simp [Value.oneCell']) B3.out B4.out (by simp; omega) ?_; intro v2 w2 own2 gr2; obtain ⟨g2, c2, rfl⟩ := ownsRow_succ own2)))
  have hcc := (cap_of_own own2).1
  have l1 : (on : Int) ≤ (c2 : Int) := by omega
  have l2 : (on : Int) ≤ (on : Int) + 1 := by omega
  have e0 : Ext (w.alloc (.cells #[.int .i64 ar0, .slice ra rn rc, .slice oa on oc] 25)) w1 := ⟨gr1.os, gr1.tape, gr1.output, gr1.size, fun i hi => gr1.block i hi (fun e => by cases e)⟩
  have e1 : Ext w w1 := ext_ownB (ext_alloc (Below.refl _ w : Ext w w) _) gr1 (fun g e => by cases e)
  have e2 : Ext w w2 := ext_ownB (ext_alloc e1 _) gr2 (fun g e => (OW1.out.lt g e).1)
  have y2 : w2.cell? ⟨w.heap.size, 2, none⟩ = some (.slice oa on oc) := by
    have k1 : w1.cell? ⟨w.heap.size, 2, none⟩ = some (.slice oa on oc) := keep e0 (by go_simp)
    have k2 := keep (ext_alloc (Below.refl _ w1) (.cells #[.int .i64 (-77)] 3)) k1
    rw [← k2]
    refine World.cell?_of_block (gr2.block w.heap.size (World.block_lt_of_cell? _ ⟨w.heap.size, 2, none⟩ k2) (fun e => ?_))
    have hb : (w1.alloc (.cells #[.int .i64 (-77)] 3)).heap[w.heap.size]? = some (.cells #[.int .i64 ar0, .slice ra rn rc, .slice oa on oc] 25 (0, 0)) := by
      have z1 : w.heap.size < w1.heap.size := Nat.lt_of_lt_of_le (by simp) e0.size
      rw [heap_alloc_old w1 _ z1, e0.block w.heap.size (by simp)]
      exact heap_alloc_new w _
    rcases OW1.out.2 with ⟨e5, _⟩ | ⟨g5, c5, cur, e5, _, hg5, _⟩
    · rw [e5] at e
      cases e
    · rw [e5] at e
      cases e
      have h9 := hb.symm.trans hg5
      cases h9
  have OWN2 := Lib.hid own2
  have E2 := Lib.hid e2
  clear e0 e1 e2 own2 gr1 gr2
  go_wp2
  go_returns
  exact ⟨g2, c2, rfl, by rw [List.map_append]; exact OWN2.out, E2.out⟩
end Go.Proofs.YthjpfplebbnbpaaGreat
