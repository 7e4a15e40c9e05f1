/- The law's cases in memory; the walks of great, rows, order. -/
import Derived.Test.YthjpfplebbnbpaaCur5
namespace Go.Proofs.Ythjpfplebbnbpaa
open Go.ChangeShapes Go.WideShapes Go.ChangeAt Go.RowKit
/-- A row as a case holds it. -/
def rowC (w : World) (b o : Nat) (r : List ByteArray) : Prop := ∃ (a : Option Addr) (n c : Nat), w.cell? ⟨b, o, none⟩ = some (.slice a n c) ∧ StrsAt w a n r ∧ (a = none → n = 0 ∧ c = 0)
theorem rowC.keep {W w : World} (hb : Ext W w) {b o : Nat} {r : List ByteArray} (h : rowC W b o r) : rowC w b o r := by
  obtain ⟨a, n, c, h1, h2, h3⟩ := h
  exact ⟨a, n, c, Ythjpfplebbnbpaa.keep hb h1, h2.keep hb, h3⟩
structure CaseV where
  ar : Int
  ra : Option Addr
  rn : Nat
  rc : Nat
  oa : Option Addr
  on : Nat
  oc : Nat
def CaseV.v (x : CaseV) : Value := .agg #[.int .i64 x.ar, .slice x.ra x.rn x.rc, .slice x.oa x.on x.oc]
/-- A case: rows and an order, as they lie. -/
structure CaseAt (w : World) (x : CaseV) (rows : List (List ByteArray)) (os : List Int) : Prop where
  rows : SliceAt rowC 1 w x.ra x.rn rows
  rmax : x.rn ≤ maxLen
  order : IntsAt w x.oa x.on os
  nil : x.oa = none → x.on = 0 ∧ x.oc = 0
  room : x.on ≤ 17592186043904
theorem CaseAt.keep {W w : World} (hb : Ext W w) {x : CaseV} {rows : List (List ByteArray)} {os : List Int} (h : CaseAt W x rows os) : CaseAt w x rows os := ⟨h.rows.keep fun _ _ _ => rowC.keep hb, h.rmax, h.order.keep hb, h.nil, h.room⟩
/-- The rows that layer 3 takes. -/
def rowsM (ar : Nat) (rows : List (List ByteArray)) : List (List ByteArray) := rows.foldl (addRow ar) []
theorem rowsM_snoc (ar : Nat) (rows : List (List ByteArray)) (r : List ByteArray) : rowsM ar (rows ++ [r]) = addRow ar (rowsM ar rows) r := by simp [rowsM]
theorem rowsM_facts (ar : Nat) (rows : List (List ByteArray)) : Rising (rowsM ar rows) ∧ (∀ r ∈ rowsM ar rows, r.length = ar) ∧ (rowsM ar rows).length ≤ rows.length := by
  refine snoc_ind (P := fun rows => Rising (rowsM ar rows) ∧ (∀ r ∈ rowsM ar rows, r.length = ar) ∧ (rowsM ar rows).length ≤ rows.length) ⟨List.Pairwise.nil, fun r hr => by simp [rowsM] at hr, Nat.le_refl _⟩ (fun l x ⟨h1, h2, h3⟩ => ?_) rows
  rw [rowsM_snoc]
  refine ⟨addRow_rising h1 x, fun r hr => ?_, ?_⟩
  · unfold addRow at hr
    split at hr
    · rename_i h
      rcases (putRow_mem h1 x r).1 hr with rfl | h4
      · exact h.1
      · exact h2 r h4
    · exact h2 r hr
  · have := addRow_len ar (rowsM ar l) x
    rw [List.length_append, List.length_singleton]
    omega
theorem c_great (x : CaseV) (w : World) : Calls Try.prog 7 #[x.v] w fun e w' => e = .returned (.bool (decide (400 < x.rn))) ∧ Ext w w' := by
  obtain ⟨ar, ra, rn, rc, oa, on, oc⟩ := x
  unfold CaseV.v
  dsimp only
  obtain ⟨b, hb⟩ : ∃ b, decide (400 < rn) = b := ⟨_, rfl⟩
  have hb2 : decide ((400 : Int) < (rn : Int)) = b := by rw [← hb, decide_eq_decide]; omega
  rw [hb]
  clear hb
  go_enter Try.func7, Try.ntmps7
  go_wp2
  go_returns
  exact ⟨by first | rfl | (simp [hb2]), ext_alloc (Below.refl _ _) _⟩
def RowsPost (x : CaseV) (rows : List (List ByteArray)) (w : World) (e : Ending) (w' : World) : Prop := Ext w w' ∧ ∃ p a n c, e = .returned (.tuple #[.pointer p, .slice a n c]) ∧
  ((¬ (0 ≤ x.ar ∧ x.ar ≤ 64) ∧ p = none ∧ a = none ∧ n = 0 ∧ c = 0) ∨
  (∃ ar : Nat, x.ar = (ar : Int) ∧ ar ≤ 64 ∧ n = (rowsM ar rows).length ∧ ∃ pb lo us, p = some ⟨pb, 0, none⟩ ∧ w.heap.size ≤ pb ∧ RowsV w' lo pb ar (rowsM ar rows) ∧ lo ≤ w'.heap.size ∧ w'.ownsRow w.heap.size 33 1 (.slice a n c) n us ∧ RowsAt w.heap.size w' us (rowsM ar rows)))
theorem nil_eqW (w : World) : (binOp .eql 52 (.pointer none) (.pointer none)).run Try.prog w = .ok (.bool true) w := by kernel_rfl
set_option maxRecDepth 100000 in
set_option maxHeartbeats 1000000 in
theorem c_rowsL (x : CaseV) (rows : List (List ByteArray)) (os : List Int) (w : World) (h : CaseAt w x rows os) (hn : x.rn ≤ 400) :
    Calls Try.prog 34 #[x.v] w (RowsPost x rows w) := by
  obtain ⟨ar0, ra, rn, rc, oa, on, oc⟩ := x
  unfold CaseV.v
  have HR := Lib.hid h.rows
  clear h
  dsimp only at HR hn ⊢
  by_cases har : 0 ≤ ar0 ∧ ar0 ≤ 64
  · obtain ⟨ar, rfl⟩ : ∃ ar : Nat, ar0 = (ar : Int) := ⟨ar0.toNat, by omega⟩
    have har64 : ar ≤ 64 := by omega
    have NR : Hid (∀ w1 : World, Calls Try.prog 31 #[.int .i64 (ar : Int)] w1 fun e w' => e = .returned (.tuple #[.pointer (some ⟨w1.heap.size, 0, none⟩), .int .i64 0]) ∧ RowsV w' w'.heap.size w1.heap.size ar [] ∧ Ext w1 w') := fun w1 => c_newRows ar har64 w1
    clear har
    go_enter Try.func34, Try.ntmps34
    go_wp2_with (go_at_call 31; (with_reducible refine (NR.out _).mono ?_); rintro e w1 ⟨rfl, hr1, hE1⟩)
    refine wp_gen (fun W1 hW1 => ?_)
    have E1 : Hid (Ext w W1) := by show Ext _ _; rw [hW1]; exact ext_trans (ext_alloc (Below.refl _ _) _) hE1
    have x1 : W1.cell? ⟨w.heap.size, 1, none⟩ = some (.slice ra rn rc) := by rw [hW1]; exact keep hE1 (by go_simp)
    have R1 : Hid (RowsV W1 w1.heap.size (w.heap.size + 1) ar []) := by
      show RowsV _ _ _ _ _
      rw [hW1]
      simpa using hr1
    have hz : w.heap.size + 1 < w1.heap.size := R1.out.lt
    have hz2 : Hid (w1.heap.size ≤ W1.heap.size) := by show _ ≤ _; rw [hW1]; exact Nat.le_refl _
    clear hW1 hr1 hE1
    obtain ⟨lo, hlo⟩ : ∃ lo, w1.heap.size = lo := ⟨_, rfl⟩
    rw [hlo] at R1 hz hz2
    obtain ⟨pb, hpb⟩ : ∃ pb, w.heap.size + 1 = pb := ⟨_, rfl⟩
    rw [hpb] at R1 hz ⊢
    have hpbw : w.heap.size < pb := by omega
    clear hlo hpb NR
    go_loopw [6] (fun v wj => ∃ i : Nat, i ≤ rn ∧ v = .int .i64 (i : Int) ∧ RowsV wj lo pb ar (rowsM ar (rows.take i)) ∧ ButS (fun b => b = pb ∨ lo ≤ b) W1 wj) (fun v _ => rn - (intOf v).toNat)
    case atStart => exact ⟨0, Nat.zero_le _, rfl, R1.out, ButS.refl _ _⟩
    case round =>
      obtain ⟨i, hi, rfl, hrv, hbt⟩ := hrel
      have RV := Lib.hid hrv
      have BT := Lib.hid hbt
      have hE : Ext w wr := ext_of_but E1.out hbt (fun b hb => by omega)
      have x2 := hbt.cell (by omega) x1
      have hlow : lo ≤ wr.heap.size := Nat.le_trans hz2.out hbt.size
      obtain ⟨fr, fl, fc⟩ := rowsM_facts ar (rows.take i)
      have fcl : (rowsM ar (rows.take i)).length ≤ i := by rw [List.length_take] at fc; omega
      by_cases hlt : i < rn
      · have hlti : (i : Int) < (rn : Int) := by omega
        obtain ⟨r, b1, o1, hx, rfl, a5, n5, c5, g1, g2, g3⟩ := (HR.out.keep (fun _ _ _ => rowC.keep hE)).at hlt
        have g1 : wr.cell? ⟨b1, o1 + i, none⟩ = some (.slice a5 n5 c5) := by simpa using g1
        have AD := Lib.hid (c_addR lo pb ar (rowsM ar (rows.take i)) r a5 n5 c5 wr RV.out fr g2 g3 har64 (by omega) hlow)
        have ST : Hid (rowsM ar (rows.take (i + 1)) = addRow ar (rowsM ar (rows.take i)) r) := by show _ = _; rw [take_at hx, rowsM_snoc]
        clear hrv hbt hE hx g2 g3 fr fl fc
        go_wp2_with (go_at_call 32; (with_reducible refine AD.out.mono ?_); rintro e w3 ⟨⟨b3, k3, rfl⟩, r3, b4⟩)
        go_roundw
        case rel => exact ⟨i + 1, by omega, by go_num, by rw [ST.out]; exact r3, BT.out.trans b4⟩
        case measure => simp [intOf]; omega
      · obtain rfl : i = rn := by omega
        have hge : ¬ (i : Int) < (i : Int) := by omega
        have ht : rows.take i = rows := List.take_of_length_le (by rw [HR.out.1]; exact Nat.le_refl _)
        rw [ht] at RV fl fcl
        have AL := Lib.hid (c_all lo pb ar (rowsM ar rows) wr RV.out (by omega) (fun r hr => by rw [fl r hr]; omega))
        have EX := Lib.hid hE
        clear hrv hbt hE fr fl fc ht
        go_wp2_with (go_at_call 54; (with_reducible refine AL.out.mono ?_); rintro e w3 ⟨a3, c3, us, rfl, o3, r3, e3⟩)
        go_ret2
        exact ⟨ext_trans EX.out e3, _, a3, _, c3, rfl, .inr ⟨ar, rfl, har64, rfl, pb, lo, us, rfl, by omega, RV.out.ext e3, Nat.le_trans hlow e3.size, own_base o3 EX.out.size, ⟨r3.1, fun i r v h1 h2 => own_base (r3.2 i r v h1 h2) EX.out.size⟩⟩⟩
  · have NR : Hid (∀ w1 : World, Calls Try.prog 31 #[.int .i64 ar0] w1 fun e w' => e = .returned (.tuple #[.pointer none, .int .i64 2]) ∧ w' = w1) := fun w1 => c_newRows_no ar0 (by omega) w1
    have HB := Lib.hid har
    clear har
    go_enter Try.func34, Try.ntmps34
    go_wp2_with (go_at_call 31; (with_reducible refine (NR.out _).mono ?_); rintro e w1 ⟨rfl, hw1⟩; obtain rfl := hw1.symm)
    go_ret2
    exact ⟨ext_alloc (Below.refl _ _) _, none, none, 0, 0, rfl, .inl ⟨HB.out, rfl, rfl, rfl, rfl⟩⟩
def OrdPost (x : CaseV) (os : List Int) (w : World) (e : Ending) (w' : World) : Prop := ∃ g c, e = .returned (.slice (some ⟨g, 0, none⟩) x.on c) ∧ w'.ownsRow w.heap.size 3 1 (.slice (some ⟨g, 0, none⟩) (x.on + 1) c) (x.on + 1) ((os ++ [-77]).map intV) ∧ Ext w w'
theorem int_cells {w : World} {a : Option Addr} {n : Nat} {xs : List Int} (h : IntsAt w a n xs) : (xs.map intV).length = n * 1 ∧ (∀ ad, a = some ad → ∀ j u, (xs.map intV)[j]? = some u → w.cell? (ad.add j) = some u) ∧ ∀ u ∈ xs.map intV, u.oneCell' = true := by
  refine ⟨by rw [List.length_map, h.2.1, Nat.mul_one], fun ad e j u hu => ?_, fun u hu => ?_⟩
  · rw [List.getElem?_map] at hu
    obtain ⟨x, hx, rfl⟩ := Option.map_eq_some_iff.1 hu
    obtain ⟨b, off, e2, hc⟩ := h.2.2 j x hx
    rw [e] at e2
    cases e2
    rw [Addr.add_lit]
    simpa [intAt] using hc
  · obtain ⟨x, _, rfl⟩ := List.mem_map.1 hu
    rfl
set_option maxRecDepth 100000 in
theorem c_orderL (x : CaseV) (rows : List (List ByteArray)) (os : List Int) (w : World) (h : CaseAt w x rows os) :
    Calls Try.prog 35 #[x.v] w (OrdPost x os w) := by
  obtain ⟨ar0, ra, rn, rc, oa, on, oc⟩ := x
  unfold CaseV.v
  have HO := Lib.hid h.order
  have HN := Lib.hid h.nil
  have hroom := h.room
  clear h
  dsimp only at HO HN hroom ⊢
  obtain ⟨n0, hn0, nz0, nz1, nz2⟩ := info_parts info_int
  have E0 : Ext w (w.alloc (.cells #[.int .i64 ar0, .slice ra rn rc, .slice oa on oc] 25)) := ext_alloc (Below.refl _ _) _
  obtain ⟨il, ic, io⟩ := int_cells (HO.out.keep E0)
  have IL := Lib.hid il
  have IC := Lib.hid ic
  have IO := Lib.hid io
  have B1 : Hid (0 + on ≤ maxLen) := by show _ ≤ _; unfold maxLen; omega
  have B2 : Hid ((0 + on) * 8 ≤ 140737488355328) := by show _ ≤ _; omega
  have B3 : Hid (on + 1 ≤ maxLen) := by show _ ≤ _; unfold maxLen; omega
  have B4 : Hid ((on + 1) * 8 ≤ 140737488355328) := by show _ ≤ _; omega
  have HL : Hid (os.length = on) := HO.out.2.1
  clear il ic io E0
  go_enter Try.func35, Try.ntmps35
  go_upto_region 3 with (at_builtin; (first
    | (refine wpList_append_any rfl _ _ 23 rfl w.heap.size 3 n0 (.int .i64 0) 1 8 Try.underlying23 hn0 nz0 nz1 nz2 rfl (by decide) (.slice none 0 0) 0 [] rfl (World.ownsRow_nil _ _ _ _) oa on oc (os.map intV) rfl HN.out IL.out IC.out IO.out B1.out B2.out (by simp) ?_; intro v1 w1 own1 gr1; rw [Nat.zero_add, List.nil_append] at own1; have OW1 := Lib.hid (own1.alloc (.cells #[.int .i64 (-77)] 3)); have hz1 : w.heap.size ≤ w1.heap.size := (Nat.le_trans (by simp) gr1.size); have N1 := Lib.hid (news1 w1 (.int .i64 (-77)) 3))
    | (refine wpList_append_any rfl _ _ 23 rfl w.heap.size 3 n0 (.int .i64 0) 1 8 Try.underlying23 hn0 nz0 nz1 nz2 rfl (by decide) v1 on (os.map intV) rfl OW1.out (some ⟨w1.heap.size, 0, none⟩) 1 1 [.int .i64 (-77)] rfl (by intro h; cases h) rfl (fun ad e => by cases e; exact N1.out) (by simp [Value.oneCell']) B3.out B4.out (by simp; omega) ?_; intro v2 w2 own2 gr2; obtain ⟨g2, c2, rfl⟩ := ownsRow_succ own2)))
  have hcc := (cap_of_own own2).1
  have l1 : (on : Int) ≤ (c2 : Int) := by omega
  have l2 : (on : Int) ≤ (on : Int) + 1 := by omega
  have e0 : Ext (w.alloc (.cells #[.int .i64 ar0, .slice ra rn rc, .slice oa on oc] 25)) w1 := ⟨gr1.os, gr1.tape, gr1.output, gr1.size, fun i hi => gr1.block i hi (fun e => by cases e)⟩
  have e1 : Ext w w1 := ext_ownB (ext_alloc (Below.refl _ w : Ext w w) _) gr1 (fun g e => by cases e)
  have e2 : Ext w w2 := ext_ownB (ext_alloc e1 _) gr2 (fun g e => (OW1.out.lt g e).1)
  have y2 : w2.cell? ⟨w.heap.size, 2, none⟩ = some (.slice oa on oc) := by
    have k1 : w1.cell? ⟨w.heap.size, 2, none⟩ = some (.slice oa on oc) := keep e0 (by go_simp)
    have k2 := keep (ext_alloc (Below.refl _ w1) (.cells #[.int .i64 (-77)] 3)) k1
    rw [← k2]
    refine World.cell?_of_block (gr2.block w.heap.size (World.block_lt_of_cell? _ ⟨w.heap.size, 2, none⟩ k2) (fun e => ?_))
    have hb : (w1.alloc (.cells #[.int .i64 (-77)] 3)).heap[w.heap.size]? = some (.cells #[.int .i64 ar0, .slice ra rn rc, .slice oa on oc] 25 (0, 0)) := by
      have z1 : w.heap.size < w1.heap.size := Nat.lt_of_lt_of_le (by simp) e0.size
      rw [heap_alloc_old w1 _ z1, e0.block w.heap.size (by simp)]
      exact heap_alloc_new w _
    rcases OW1.out.2 with ⟨e5, _⟩ | ⟨g5, c5, cur, e5, _, hg5, _⟩
    · rw [e5] at e
      cases e
    · rw [e5] at e
      cases e
      have h9 := hb.symm.trans hg5
      cases h9
  have OWN2 := Lib.hid own2
  have E2 := Lib.hid e2
  clear e0 e1 e2 own2 gr1 gr2
  go_wp2
  go_returns
  exact ⟨g2, c2, rfl, by rw [List.map_append]; exact OWN2.out, E2.out⟩
/-- What from tells: no trie, or one. -/
def FromPost (x : CaseV) (rows : List (List ByteArray)) (os : List Int) (w : World) (e : Ending) (w' : World) : Prop := Ext w w' ∧
  (e = .returned (.tuple #[.pointer none, .bool true]) ∨
  ∃ (ar : Nat) (pt : Nat) (ways : List (List ByteArray)), e = .returned (.tuple #[.pointer (some ⟨pt, 0, none⟩), .bool true]) ∧ x.ar = (ar : Int) ∧ ar ≤ 64 ∧ orderOk ar os ∧ w.heap.size ≤ pt ∧ pt < w'.heap.size ∧ TrieV w' pt os.length ways ∧ Ways os.length ways ∧ (∀ z, z ∈ ways ↔ ∃ r ∈ rowsM ar rows, projM os r = z) ∧ ways.length ≤ (rowsM ar rows).length)
theorem nil_eqT (w : World) : (binOp .eql 27 (.pointer none) (.pointer none)).run Try.prog w = .ok (.bool true) w := by kernel_rfl
theorem ptr_eqT (w : World) (b : Nat) : (binOp .eql 27 (.pointer (some ⟨b, 0, none⟩)) (.pointer none)).run Try.prog w = .ok (.bool false) w := by kernel_rfl
set_option maxRecDepth 100000 in
set_option maxHeartbeats 1000000 in
theorem c_from (x : CaseV) (rows : List (List ByteArray)) (os : List Int) (w : World) (h : CaseAt w x rows os) (hn : x.rn ≤ 400) :
    Calls Try.prog 8 #[x.v] w (FromPost x rows os w) := by
  have HC := Lib.hid h
  have hrl : rows.length = x.rn := h.rows.1
  have RW : Hid (∀ w1, Ext w w1 → Calls Try.prog 34 #[x.v] w1 (RowsPost x rows w1)) := fun w1 h1 => c_rowsL x rows os w1 (HC.out.keep h1) hn
  have OR : Hid (∀ w1, Ext w w1 → Calls Try.prog 35 #[x.v] w1 fun e w' => ∃ g c, e = .returned (.slice (some ⟨g, 0, none⟩) x.on c) ∧ w'.ownsRow w1.heap.size 3 1 (.slice (some ⟨g, 0, none⟩) (x.on + 1) c) (x.on + 1) ((os ++ [-77]).map intV) ∧ Ext w1 w') := fun w1 h1 => c_orderL x rows os w1 (HC.out.keep h1)
  have HOL : Hid (os.length = x.on) := h.order.2.1
  obtain ⟨ar0, ra, rn, rc, oa, on, oc⟩ := x
  unfold CaseV.v at RW OR ⊢
  dsimp only at RW OR HOL hn hrl ⊢
  clear h
  go_enter Try.func8, Try.ntmps8
  go_upto_region 2 with (go_at_call 34; (with_reducible refine (RW.out _ (ext_alloc (Below.refl _ _) _)).mono ?_); rintro e w1 ⟨E1, p, a1, n1, c1, rfl, hr⟩)
  refine wp_gen (fun W1 hW1 => ?_)
  have e1 : Ext w W1 := by rw [hW1]; exact ext_trans (ext_alloc (Below.refl _ _) _) E1
  have x0 : W1.cell? ⟨w.heap.size, 0, none⟩ = some (.int .i64 ar0) := by rw [hW1]; exact keep E1 (by go_simp)
  have x1 : W1.cell? ⟨w.heap.size, 1, none⟩ = some (.slice ra rn rc) := by rw [hW1]; exact keep E1 (by go_simp)
  have x2 : W1.cell? ⟨w.heap.size, 2, none⟩ = some (.slice oa on oc) := by rw [hW1]; exact keep E1 (by go_simp)
  rw [← hW1] at hr
  have O1 := Lib.hid (OR.out W1 e1)
  clear hW1
  rcases hr with ⟨_, rfl, rfl, rfl, rfl⟩ | ⟨ar, hare, har64, rfl, pb, lo, us, rfl, hpb, rv, hlo, _, _⟩
  · have BN : Hid (∀ w2 g c, Calls Try.prog 33 #[.pointer none, .slice (some ⟨g, 0, none⟩) on c] w2 fun e w' => e = .returned (.tuple #[.pointer none, .int .i64 1]) ∧ w' = w2) := fun w2 g c => c_buildNil _ _ _ w2
    have eqp := nil_eqT
    go_wp2_with (first
      | (go_at_call 35; (with_reducible refine O1.out.mono ?_); rintro e w2 ⟨g2, c2, rfl, o2, E2⟩)
      | (go_at_call 33; (with_reducible refine (BN.out _ _ _).mono ?_); rintro e w3 ⟨rfl, hw3⟩; obtain rfl := hw3.symm))
    go_ret2
    exact ⟨ext_trans e1 E2, .inl rfl⟩
  · have RV := Lib.hid rv
    have HARE := Lib.hid hare
    obtain ⟨fr, fl, fc⟩ := rowsM_facts ar rows
    have BD : Hid (∀ w2 g c, Ext W1 w2 → w2.ownsRow W1.heap.size 3 1 (.slice (some ⟨g, 0, none⟩) (on + 1) c) (on + 1) ((os ++ [-77]).map intV) → Calls Try.prog 33 #[.pointer (some ⟨pb, 0, none⟩), .slice (some ⟨g, 0, none⟩) on c] w2 fun e w' => ∃ p2 k2, e = .returned (.tuple #[.pointer p2, .int .i64 k2]) ∧ ((p2 = none ∧ k2 = 2 ∧ w' = w2) ∨ (k2 = 0 ∧ orderOk ar os ∧ ∃ pt ways, p2 = some ⟨pt, 0, none⟩ ∧ w2.heap.size ≤ pt ∧ pt < w'.heap.size ∧ TrieV w' pt os.length ways ∧ Ext w2 w' ∧ Ways os.length ways ∧ (∀ z, z ∈ ways ↔ ∃ r ∈ rowsM ar rows, projM os r = z) ∧ ways.length ≤ (rowsM ar rows).length))) := fun w2 g c h1 h2 => by
      have hc := (cap_of_own h2).1
      have hI : IntsAt w2 (some ⟨g, 0, none⟩) on os := by
        have h3 := (own_ints h2 (own_len h2).1).take (k := on) (Nat.le_succ _)
        rwa [List.take_append_of_le_length (by rw [HOL.out]; exact Nat.le_refl _), List.take_of_length_le (by rw [HOL.out]; exact Nat.le_refl _)] at h3
      refine (c_build lo pb ar (rowsM ar rows) os (some ⟨g, 0, none⟩) on c w2 (RV.out.ext h1) (by omega) fl har64 hI (by omega)).mono fun e w' hp => ?_
      rcases hp with ⟨h4, rfl, rfl⟩ | ⟨h4, pt, ways, rfl, h5, h6, h7, h8, h9, h10, h11⟩
      · exact ⟨_, _, rfl, .inl ⟨rfl, rfl, rfl⟩⟩
      · exact ⟨_, _, rfl, .inr ⟨rfl, h4, pt, ways, rfl, h5, h6, h7, h8, h9, h10, h11⟩⟩
    clear rv fr fl fc RW OR hare
    go_upto_region 3 with (first
      | (go_at_call 35; (with_reducible refine O1.out.mono ?_); rintro e w2 ⟨g2, c2, rfl, o2, E2⟩)
      | (go_at_call 33; (with_reducible refine (BD.out _ _ _ E2 o2).mono ?_); rintro e w3 ⟨p2, k2, rfl, hb⟩))
    have eqp := nil_eqT
    have eqq := ptr_eqT
    rcases hb with ⟨rfl, rfl, rfl⟩ | ⟨rfl, hok, pt, ways, rfl, h5, h6, h7, h8, h9, h10, h11⟩
    · go_wp2
      go_ret2
      exact ⟨ext_trans e1 E2, .inl rfl⟩
    · have HH := Lib.hid (And.intro hok (And.intro h9 (And.intro h10 h11)))
      have HT := Lib.hid h7
      clear hok h9 h10 h11 h7
      go_wp2
      go_ret2
      exact ⟨ext_trans e1 (ext_trans E2 h8), .inr ⟨ar, pt, ways, rfl, HARE.out, har64, HH.out.1, Nat.le_trans e1.size (Nat.le_trans E2.size h5), h6, HT.out, HH.out.2.1, HH.out.2.2.1, HH.out.2.2.2⟩⟩
def KeptPost (x : CaseV) (rows : List (List ByteArray)) (w : World) (e : Ending) (w' : World) : Prop := Ext w w' ∧ ∃ a n c, e = .returned (.slice a n c) ∧
  ((¬ (0 ≤ x.ar ∧ x.ar ≤ 64) ∧ a = none ∧ n = 0 ∧ c = 0) ∨
  (∃ ar : Nat, x.ar = (ar : Int) ∧ ar ≤ 64 ∧ n = (rowsM ar rows).length ∧ ∃ us, w'.ownsRow w.heap.size 33 1 (.slice a n c) n us ∧ RowsAt w.heap.size w' us (rowsM ar rows)))
set_option maxRecDepth 100000 in
theorem c_kept (x : CaseV) (rows : List (List ByteArray)) (os : List Int) (w : World) (h : CaseAt w x rows os) (hn : x.rn ≤ 400) :
    Calls Try.prog 19 #[x.v] w (KeptPost x rows w) := by
  have HC := Lib.hid h
  have RW : Hid (∀ w1, Ext w w1 → Calls Try.prog 34 #[x.v] w1 fun e w' => Ext w1 w' ∧ ∃ p a n c, e = .returned (.tuple #[.pointer p, .slice a n c]) ∧ ((¬ (0 ≤ x.ar ∧ x.ar ≤ 64) ∧ a = none ∧ n = 0 ∧ c = 0) ∨
      (∃ ar : Nat, x.ar = (ar : Int) ∧ ar ≤ 64 ∧ n = (rowsM ar rows).length ∧ ∃ us, w'.ownsRow w1.heap.size 33 1 (.slice a n c) n us ∧ RowsAt w1.heap.size w' us (rowsM ar rows)))) := fun w1 h1 => (c_rowsL x rows os w1 (HC.out.keep h1) hn).mono fun e w' ⟨r1, p, a, n, c, r2, r3⟩ => ⟨r1, p, a, n, c, r2, by
    rcases r3 with ⟨s1, s2, s3, s4, s5⟩ | ⟨ar, s1, s2, s3, pb, lo, us, s4, s5, s6, s7, s8, s9⟩
    · exact .inl ⟨s1, s3, s4, s5⟩
    · exact .inr ⟨ar, s1, s2, s3, us, s8, s9⟩⟩
  have KP : Hid (∀ w1 a n c w9, Ext w w1 → Ext w1 w9 → ((¬ (0 ≤ x.ar ∧ x.ar ≤ 64) ∧ a = none ∧ n = 0 ∧ c = 0) ∨
      (∃ ar : Nat, x.ar = (ar : Int) ∧ ar ≤ 64 ∧ n = (rowsM ar rows).length ∧ ∃ us, w9.ownsRow w1.heap.size 33 1 (.slice a n c) n us ∧ RowsAt w1.heap.size w9 us (rowsM ar rows))) → KeptPost x rows w (.returned (.slice a n c)) w9) := fun w1 a n c w9 h1 h2 h3 => ⟨ext_trans h1 h2, a, n, c, rfl, by
    rcases h3 with s | ⟨ar, s1, s2, s3, us, s8, s9⟩
    · exact .inl s
    · exact .inr ⟨ar, s1, s2, s3, us, own_base s8 h1.size, ⟨s9.1, fun i r v q1 q2 => own_base (s9.2 i r v q1 q2) h1.size⟩⟩⟩
  obtain ⟨ar0, ra, rn, rc, oa, on, oc⟩ := x
  unfold CaseV.v at RW ⊢
  dsimp only at RW ⊢
  clear h
  go_enter Try.func19, Try.ntmps19
  go_wp2_with (go_at_call 34; (with_reducible refine (RW.out _ (ext_alloc (Below.refl _ _) _)).mono ?_); rintro e w1 ⟨E1, p, a1, n1, c1, rfl, hr⟩; have HR1 := Lib.hid hr; clear hr)
  go_returns
  exact KP.out _ _ _ _ _ (ext_alloc (Below.refl _ _) _) E1 HR1.out
end Go.Proofs.Ythjpfplebbnbpaa
