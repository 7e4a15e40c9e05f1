/- The walk of the law's ways: all that Each tells, or a part: new rows that share no block. -/
import Derived.Test.YthjpfplebbnbpaaGreatEachT
namespace Go.Proofs.YthjpfplebbnbpaaGreat
open Go.ChangeShapes Go.WideShapes Go.ChangeAt Go.RowKit Go.Shelf
attribute [local go_sem] Oper.semAt_some
theorem c_eachT (pv : Option Addr) (w : World) : Calls Tryz.prog 50 #[.pointer pv] w fun e w' => e = .returned (.func (.func 65) #[] #[.pointer (some ⟨w.heap.size, 0, none⟩)]) ∧ Ext w w' ∧ w'.cell? ⟨w.heap.size, 0, none⟩ = some (.pointer pv) := by
  go_enter Tryz.func50, Tryz.ntmps50
  go_wp2
  go_returns
  exact ⟨rfl, ext_alloc (Below.refl _ _) _, by go_simp⟩
/-- Values of rows that share no block. -/
def AptV (vs : List Value) : Prop := vs.Pairwise fun v u => ∀ b, v.ownBlock = some b → u.ownBlock ≠ some b
theorem AptV.snoc {vs : List Value} (h : AptV vs) {u : Value} (hu : ∀ v ∈ vs, ∀ b, v.ownBlock = some b → u.ownBlock ≠ some b) : AptV (vs ++ [u]) :=
  List.pairwise_append.2 ⟨h, by simp, fun v hv x hx => by rw [List.mem_singleton] at hx; subst hx; exact hu v hv⟩
theorem own_notCur {W : World} {lo n sz : Nat} {e : TypeId} {v : Value} {xs : List Value} (h : W.ownsRow lo e sz v n xs) (h1 : e ≠ 35) (h2 : e ≠ 81) : ∀ b, v.ownBlock = some b → ¬ CurT W b := by
  rintro b hb ⟨cs, t, x, hg, ht⟩
  rcases h.2 with ⟨e1, _⟩ | ⟨g', c', cur, e1, _, hg', _⟩
  · rw [e1] at hb
    cases hb
  · rw [e1] at hb
    cases hb
    rw [hg'] at hg
    cases hg
    rcases ht with ht | ht
    · exact h1 ht
    · exact h2 ht
theorem boxed_notCur {W : World} {b : Nat} {t : TypeId} {v : Value} (h : Boxed W b t v) (h1 : t ≠ 35) (h2 : t ≠ 81) : ¬ CurT W b := by
  rintro ⟨cs, t', x, hg, ht⟩
  rw [show W.heap[b]? = _ from h] at hg
  cases hg
  rcases ht with ht | ht
  · exact h1 ht
  · exact h2 ht
/-- What lies in the law's hands between two rounds. -/
structure WaySt (w : World) (lo : Nat) (ways : List (List ByteArray)) (most : Int) (b3 b7 k : Nat) (a : Option Addr) (c : Nat) (vs : List Value) (W : World) : Prop where
  ext : Ext w W
  bx3 : Boxed W b3 3 (.int .i64 most)
  bx7 : Boxed W b7 22 (.slice a k c)
  row : W.ownsRow lo 46 1 (.slice a k c) k vs
  rows : RowsAt lo W vs (ways.take k)
  apt : AptV vs
  le : k ≤ ways.length
theorem WaySt.but {S : Nat → Prop} {w : World} {lo : Nat} {ways : List (List ByteArray)} {most : Int} {b3 b7 k : Nat} {a : Option Addr} {c : Nat} {vs : List Value} {W W' : World} (h : WaySt w lo ways most b3 b7 k a c vs W) (b : ButS S W W') (h0 : ∀ b, b < w.heap.size → ¬ S b) (h3 : ¬ S b3) (h7 : ¬ S b7) (hr : ∀ (e : TypeId) (n : Nat) (v : Value) (xs : List Value), (e = 9 ∨ e = 46) → W.ownsRow lo e 1 v n xs → ∀ b, v.ownBlock = some b → ¬ S b) : WaySt w lo ways most b3 b7 k a c vs W' :=
  ⟨ext_of_but h.ext b h0, (b.block b3 h.bx3.lt h3).trans h.bx3, (b.block b7 h.bx7.lt h7).trans h.bx7, b.own h.row (hr _ _ _ _ (.inr rfl) h.row), ⟨h.rows.1, fun i r v h1 h2 => b.own (h.rows.2 i r v h1 h2) (hr _ _ _ _ (.inl rfl) (h.rows.2 i r v h1 h2))⟩, h.apt, h.le⟩
theorem WaySt.keep {w : World} {lo : Nat} {ways : List (List ByteArray)} {most : Int} {b3 b7 k : Nat} {a : Option Addr} {c : Nat} {vs : List Value} {W W' : World} (h : WaySt w lo ways most b3 b7 k a c vs W) (e : Ext W W') : WaySt w lo ways most b3 b7 k a c vs W' :=
  h.but (S := fun _ => False) ((ButS.refl _ W).ext e) (fun _ _ => id) id id (fun _ _ _ _ _ _ _ _ => id)
theorem own_cells {W : World} {lo n sz : Nat} {e : TypeId} {v : Value} {xs : List Value} (h : W.ownsRow lo e sz v n xs) : ∀ b, v.ownBlock = some b → ∃ cs t x, W.heap[b]? = some (.cells cs t x) := by
  intro b hb
  rcases h.2 with ⟨e1, _⟩ | ⟨g', c', cur, e1, _, hg', _⟩
  · rw [e1] at hb
    cases hb
  · rw [e1] at hb
    cases hb
    exact ⟨_, _, _, hg'⟩
theorem WaySt.putL {w : World} {lo : Nat} {ways : List (List ByteArray)} {most : Int} {b3 b7 k : Nat} {a : Option Addr} {c : Nat} {vs : List Value} {W : World} (h : WaySt w lo ways most b3 b7 k a c vs W) {l : Nat} {ob : Obj} (hl : W.heap[l]? = some ob) (hnc : ob.isCells = false) (hw : w.heap.size ≤ l) (o : Obj) : WaySt w lo ways most b3 b7 k a c vs (W.putObj l o) := by
  refine h.but (S := fun b => b = l) (ButS.putObj W o rfl) (fun b hb e => by omega) (fun e => ?_) (fun e => ?_) (fun e n v xs _ ho b h1 h2 => ?_)
  · rw [← e, show W.heap[b3]? = _ from h.bx3] at hl
    cases hl
    cases hnc
  · rw [← e, show W.heap[b7]? = _ from h.bx7] at hl
    cases hl
    cases hnc
  · obtain ⟨cs, t, x, hc⟩ := own_cells ho b h1
    rw [h2, hl] at hc
    cases hc
    cases hnc
/-- One row more. -/
theorem WaySt.push {w : World} {lo : Nat} {ways : List (List ByteArray)} {most : Int} {b3 b7 k : Nat} {a : Option Addr} {c : Nat} {vs : List Value} {Wb w1 : World} {g cap : Nat} {r : List ByteArray} {u : Value} {o : Obj} (h : WaySt w lo ways most b3 b7 k a c vs Wb) (hr : ways[k]? = some r) (hu : Wb.ownsRow lo 9 1 u r.length (r.map Value.string)) (ap : AptV (vs ++ [u])) (hown : w1.ownsRow lo 46 1 (.slice (some ⟨g, 0, none⟩) (k + 1) cap) (k + 1) (vs ++ [u])) (hg : (Wb.alloc o).grownBy w1 (Value.slice a k c).ownBlock) (hlo : w.heap.size ≤ lo) (hlo2 : lo ≤ Wb.heap.size) (h37 : b3 ≠ b7) (hw7 : w.heap.size ≤ b7) {S : Nat → Prop} (hS7 : S b7) (hSr : ∀ b, (Value.slice a k c).ownBlock = some b → S b) :
    Boxed w1 b7 22 (.slice a k c) ∧ Boxed w1 b3 3 (.int .i64 most) ∧ WaySt w lo ways most b3 b7 (k + 1) (some ⟨g, 0, none⟩) cap (vs ++ [u]) (w1.setCell ⟨b7, 0, none⟩ (.slice (some ⟨g, 0, none⟩) (k + 1) cap)) ∧ KeepsOthers Wb (w1.setCell ⟨b7, 0, none⟩ (.slice (some ⟨g, 0, none⟩) (k + 1) cap)) ∧ ButS S Wb (w1.setCell ⟨b7, 0, none⟩ (.slice (some ⟨g, 0, none⟩) (k + 1) cap)) := by
  obtain ⟨q1, q2, q3, q4, q5⟩ := h.bx7.appended (n₀ := w.heap.size) (by decide) (own_base h.row hlo) (Nat.le_trans hlo hlo2) hw7 (own_base hown hlo) hg
  have q6 : Boxed w1 b3 3 (.int .i64 most) := (h.bx3.alloc o).kept hg (h.bx3.not_row (by decide) h.row)
  refine ⟨q1, q6, ⟨h.ext.trans q5, q6.other h37 _, q2, own_set_other hown (.inr (q1.not_row (by decide) hown).symm) _, ?_, ap, (List.getElem?_eq_some_iff.1 hr).1⟩, q4, (((ButS.refl S Wb).alloc o).grown hg (fun b e => .inl (hSr b e))).set (.inl hS7) _ _⟩
  rw [take_at hr]
  exact rows_snoc ⟨h.rows.1, fun i x v hx hv => str_push (h.rows.2 i x v hx hv) h.row hg q1⟩ (str_push hu h.row hg q1)
/-- What the law answers. -/
def wayCut (ways : List (List ByteArray)) (most : Int) : List (List ByteArray) := if 1 ≤ most ∧ most < (ways.length : Int) then ways.take most.toNat else ways
def WaysPost (ways : List (List ByteArray)) (most : Int) (w : World) (e : Ending) (w' : World) : Prop := ∃ a n c vs, e = .returned (.tuple #[.slice a n c, .bool true]) ∧ Ext w w' ∧ w'.ownsRow w.heap.size 46 1 (.slice a n c) n vs ∧ RowsAt w.heap.size w' vs (wayCut ways most) ∧ AptV vs
theorem iter_eqn (w : World) (bs : Nat) : (binOp .eql 84 (.func (.func 65) #[] #[.pointer (some ⟨bs, 0, none⟩)]) .nilFunc).run Tryz.prog w = .ok (.bool false) w := by kernel_rfl
/-- What is asked of the iterator that Each answers. -/
def EachOk (pv : Option Addr) (w0 : World) (ways : List (List ByteArray)) : Prop := ∀ (bx l : Nat) (w : World), w.cell? ⟨bx, 0, none⟩ = some (.pointer pv) → Ext w0 w → ∀ (X : Nat → Prop), (∀ b, X b → w0.heap.size ≤ b ∧ b ≠ bx) → ∀ (J Jx : Nat → World → Prop), JOk w.heap.size J → YldOk X l ways w J Jx → J 0 w →
    CallsIn Fence.wide 4 Tryz.prog 65 #[.func (.yield l) #[] #[], .pointer (some ⟨bx, 0, none⟩)] w fun e W' => (∃ v, e = .returned v) ∧ (J ways.length W' ∨ ∃ k, Jx k W')
set_option maxRecDepth 100000 in
set_option maxHeartbeats 4000000 in
theorem c_lawWaysG (pv : Option Addr) (ways : List (List ByteArray)) (most : Int) (w : World) (h : EachOk pv w ways) (hn : ways.length ≤ 1000000) :
    Calls Tryz.prog 14 #[.pointer pv, .int .i64 most] w (WaysPost ways most w) := by
  obtain ⟨i0, hi, hz0, hz1, hz2⟩ := info_parts info_row
  refine (callsIn_wide (n := 5)).1 ?_
  refine callsIn_of_wp_marks Tryz.func14 rfl trivial ?_
  simp only [Tryz.ntmps14, List.size_toArray, List.length_cons, List.length_nil, Nat.reduceAdd, Nat.reduceSub, Array.replicate_succ, Array.replicate_zero, List.push_toArray, List.append_toArray, List.nil_append, List.cons_append]
  have eqf := iter_eqn
  obtain ⟨w1, hw1⟩ : ∃ w1, w1 = w.alloc (.cells #[.int .i64 most] 3) := ⟨_, rfl⟩
  gi_wp2_with (first
    | (refine ⟨trivial, ?_⟩; gi_at_call 50; rw [← hw1]; refine (callsIn_wide.2 (c_eachT pv _)).mono ?_; rintro e w2 ⟨rfl, E2, hbx⟩))
  have sz1 : w1.heap.size = w.heap.size + 1 := by rw [hw1]; simp
  obtain ⟨w3, hw3⟩ : ∃ w3, w2.alloc (.cells #[.slice none 0 0] 22) = w3 := ⟨_, rfl⟩
  have E1 : Ext w w1 := by rw [hw1]; exact ext_alloc (Below.refl _ _) _
  have E3 : Ext w2 w3 := by rw [← hw3]; exact ext_alloc (Below.refl _ _) _
  have sz2 : w1.heap.size < w2.heap.size := World.block_lt_of_cell? w2 ⟨w1.heap.size, 0, none⟩ hbx
  have sz3 : w3.heap.size = w2.heap.size + 1 := by rw [← hw3]; simp
  have hb3 : Boxed w3 w.heap.size 3 (.int .i64 most) := by
    have := Boxed.new w 3 (.int .i64 most)
    rw [← hw1] at this
    exact boxed_ext (boxed_ext this E2) E3
  have hb7 : Boxed w3 w2.heap.size 22 (.slice none 0 0) := by
    have := Boxed.new w2 22 (.slice none 0 0)
    rwa [hw3] at this
  have hbx3 : w3.cell? ⟨w.heap.size + 1, 0, none⟩ = some (.pointer pv) := by rw [← sz1]; exact keep E3 hbx
  rw [hw3]
  obtain ⟨b7, hb7e⟩ : ∃ b7, w2.heap.size = b7 := ⟨_, rfl⟩
  have EW3 := ext_trans E1 (ext_trans E2 E3)
  rw [hb7e] at hb7 sz2 sz3 ⊢
  rw [sz1] at sz2
  clear hw1 hw3 hbx E1 E2 E3 sz1 hb7e
  refine range_of (gf := 65) (lb := #[.pointer (some ⟨w.heap.size + 1, 0, none⟩)]) (by omega) rfl (enters_of Tryz.func65 (by kernel_rfl) rfl) ?_
  intro fn
  obtain ⟨D, hD⟩ : ∃ D, w3.heap.size = D := ⟨_, rfl⟩
  rw [hD]
  rw [hD] at sz3
  generalize hrec : loopOf fn _ _ _ _ D = rec
  obtain ⟨w4, hw4⟩ : ∃ w4, (w3.alloc (.deferred (some []))).alloc (.loop (rec .ready none)) = w4 := ⟨_, rfl⟩
  rw [hw4]
  have sz4 : w4.heap.size = D + 2 := by rw [← hw4]; simp; omega
  have hl4 : w4.heap[D + 1]? = some (.loop (rec .ready none)) := by
    rw [← hw4]
    have := World.alloc_heap_new (w3.alloc (.deferred (some []))) (.loop (rec .ready none))
    rwa [World.size_alloc, hD] at this
  have hD4 : w4.heap[D]? = some (.deferred (some [])) := by
    rw [← hw4, ← hD]
    exact (Below.heap_alloc _ _ _ (by simp)).trans (World.alloc_heap_new w3 _)
  have E4 : Ext w3 w4 := by rw [← hw4]; exact ext_alloc (ext_alloc (Below.refl _ _) _) _
  clear hw4 hD
  obtain ⟨X, xe⟩ : ∃ X : Nat → Prop, ∀ b, X b ↔ (b = b7 ∨ b = D + 1) := ⟨_, fun _ => Iff.rfl⟩
  obtain ⟨J, je⟩ : ∃ J : Nat → World → Prop, ∀ k W, J k W ↔ ((∃ a c vs, WaySt w w4.heap.size ways most w.heap.size b7 k a c vs W) ∧ ¬ (1 ≤ most ∧ most ≤ (k : Int)) ∧ W.heap[D + 1]? = some (.loop (rec .ready none)) ∧ W.heap[D]? = some (.deferred (some []))) := ⟨_, fun _ _ => Iff.rfl⟩
  obtain ⟨Jx, jxe⟩ : ∃ J : Nat → World → Prop, ∀ k W, J k W ↔ ((∃ a c vs, WaySt w w4.heap.size ways most w.heap.size b7 k a c vs W) ∧ ((k : Int) = most ∧ 1 ≤ k) ∧ W.heap[D + 1]? = some (.loop (rec .done (some (.exit 0)))) ∧ W.heap[D]? = some (.deferred (some []))) := ⟨_, fun _ _ => Iff.rfl⟩
  have XE := Lib.hid xe
  have JE := Lib.hid je
  have JXE := Lib.hid jxe
  clear xe je jxe
  refine CallsIn.mono (h (w.heap.size + 1) (D + 1) w4 (keep E4 hbx3) (ext_trans EW3 E4) X ?hX J Jx ?hJ ?hY ?h0) ?post
  case hX =>
    intro b hb
    rcases (XE.out b).1 hb with rfl | rfl
    · omega
    · omega
  case hJ =>
    intro k W W' hj hb
    obtain ⟨⟨a, c, vs, st⟩, hm, hl, hd4⟩ := (JE.out k W).1 hj
    refine (JE.out k W').2 ⟨⟨a, c, vs, st.but hb (fun b h1 h2 => by have := h2.1; omega) (fun h2 => by have := h2.1; omega) (fun h2 => by have := h2.1; omega) (fun e n v xs he ho b h1 h2 => ?_)⟩, hm, (hb.block _ (Array.getElem?_eq_some_iff.1 hl).1 (fun h2 => by have := h2.1; omega)).trans hl, (hb.block _ (Array.getElem?_eq_some_iff.1 hd4).1 (fun h2 => by have := h2.1; omega)).trans hd4⟩
    rcases he with rfl | rfl
    · exact own_notCur ho (by decide) (by decide) b h1 h2.2
    · exact own_notCur ho (by decide) (by decide) b h1 h2.2
  case h0 => exact (JE.out 0 w4).2 ⟨⟨none, 0, [], ext_trans EW3 E4, boxed_ext hb3 E4, boxed_ext hb7 E4, World.ownsRow_nil _ _ _ _, ⟨rfl, by simp⟩, List.Pairwise.nil, Nat.zero_le _⟩, by omega, hl4, hD4⟩
  case hY =>
    rintro k r W0 W a9 n9 c9 hr hj he ho
    obtain ⟨⟨a, c, vs, st0⟩, hm, hl0, hd0⟩ := (JE.out k W0).1 hj
    have st := st0.keep he
    have hl := (he.block _ (Array.getElem?_eq_some_iff.1 hl0).1).trans hl0
    have hd4 := (he.block _ (Array.getElem?_eq_some_iff.1 hd0).1).trans hd0
    have AP : Hid (AptV (vs ++ [.slice a9 n9 c9])) := st0.apt.snoc (fun v hv b h1 h2 => by
      obtain ⟨i, hi9⟩ := List.mem_iff_getElem?.1 hv
      obtain ⟨x, hx⟩ : ∃ x, (ways.take k)[i]? = some x := ⟨_, List.getElem?_eq_getElem (by have := (List.getElem?_eq_some_iff.1 hi9).1; have := st0.rows.1; omega)⟩
      have q1 := ((st0.rows.2 i x v hx hi9).lt b h1).2
      have q2 := (ho.lt b h2).1
      omega)
    have hkl : k < ways.length := (List.getElem?_eq_some_iff.1 hr).1
    have hl0z := (Array.getElem?_eq_some_iff.1 hl0).1
    have hl' := hl
    rw [← hrec] at hl'
    refine round_of hl' rfl ?_
    rw [hrec]
    obtain rfl : n9 = r.length := by
      have := ho.1
      rw [List.length_map] at this
      omega
    obtain ⟨Wb, hWb⟩ : ∃ Wb, W.putObj (D + 1) (.loop (rec .busy none)) = Wb := ⟨_, rfl⟩
    rw [hWb]
    have hSl : RndB X w4 W (D + 1) := ⟨.inl ((XE.out _).2 (.inr rfl)), fun ⟨cs, t, x, hc, _⟩ => by
      rw [hl] at hc
      cases hc⟩
    have HSL := Lib.hid hSl
    have hS7 : Hid (RndB X w4 W b7) := ⟨.inl ((XE.out _).2 (.inl rfl)), boxed_notCur st.bx7 (by decide) (by decide)⟩
    have hSr : Hid (∀ b, (Value.slice a k c).ownBlock = some b → RndB X w4 W b) := fun b hb => ⟨.inr (st.row.lt b hb).1, own_notCur st.row (by decide) (by decide) b hb⟩
    have B1 : Hid (ButS (RndB X w4 W) W Wb) := by rw [← hWb]; exact ButS.putObj W _ hSl
    have stb : WaySt w w4.heap.size ways most w.heap.size b7 k a c vs Wb := by rw [← hWb]; exact st.putL hl rfl (by omega) _
    have hlb : Wb.heap[D + 1]? = some (.loop (rec .busy none)) := by rw [← hWb]; exact World.putObj_heap_same (Array.getElem?_eq_some_iff.1 hl).1
    have hdb : Wb.heap[D]? = some (.deferred (some [])) := by rw [← hWb]; exact (World.putObj_heap_other (by omega)).trans hd4
    have hsz4 : Hid (w4.heap.size ≤ Wb.heap.size) := by
      have h1 := (Array.getElem?_eq_some_iff.1 hlb).1
      show _ ≤ _
      omega
    have hob : Wb.ownsRow w4.heap.size 9 1 (.slice a9 r.length c9) r.length (r.map Value.string) := by
      have h1 : W.ownsRow w4.heap.size 9 1 (.slice a9 r.length c9) r.length (r.map Value.string) := own_base ho (by omega)
      rw [← hWb]
      refine (ButS.putObj (S := fun b => b = D + 1) W _ rfl).own h1 (fun b hb e => ?_)
      obtain ⟨cs, t, x, hc⟩ := own_cells h1 b hb
      rw [e, hl] at hc
      cases hc
    have HROW := Lib.hid (stb.row.alloc (.cells #[.slice a9 r.length c9] 46))
    have n3 := cell_one_new Wb (.slice a9 r.length c9) 46
    have hc7 := stb.bx7.cell
    have STB := Lib.hid stb
    have HOB := Lib.hid hob
    have HLB := Lib.hid hlb
    have HDB := Lib.hid hdb
    have HR := Lib.hid hr
    have HM := Lib.hid hm
    have z1 : Hid (w.heap.size ≤ w4.heap.size ∧ w.heap.size ≠ b7 ∧ w.heap.size ≤ b7 ∧ w.heap.size ≤ D + 1) := ⟨by omega, by omega, by omega, by omega⟩
    have z2 : k + 1 ≤ 1000000 := by omega
    have z3 : ¬ w.heap.size = b7 := by omega
    have z4 : ¬ b7 = w.heap.size := by omega
    clear st hl hd4 ho he hWb stb hob hlb hdb st0 hl0 hd0 hl0z hl' hm hr hSl hj sz2 sz3 sz4 hkl
    by_cases hq : (k : Int) + 1 = most
    · have hq1 : ((k : Int) + 1 == most) = true := by simp [hq]
      have hq2 : (((k + 1 : Nat) : Int) == most) = true := by simp [hq]
      have HQ := Lib.hid hq
      clear hq
      gi_wp2_with (gi_at_builtin; refine wpListIn_append_own _ rfl _ _ 22 rfl w4.heap.size 46 i0 (.slice none 0 0) 1 24 Tryz.underlying22 hi hz0 hz1 hz2 rfl (by decide) (.slice a k c) k vs rfl HROW.out ⟨Wb.heap.size, 0, none⟩ 1 1 [.slice a9 r.length c9] rfl rfl n3 (by simp [Value.oneCell']) (by unfold maxLen; omega) (by omega) (by have := hsz4.out; simp; omega) ?_; intro v' w1' hown' hgrow _; obtain ⟨g', cap', rfl⟩ := ownsRow_succ hown'; obtain ⟨p1, p2, p3, p4, p5⟩ := STB.out.push HR.out HOB.out AP.out hown' hgrow z1.out.1 hsz4.out z1.out.2.1 z1.out.2.2.1 hS7.out hSr.out; have hc1 := p1.cell; have hf1 := p1.frozen; have hc3 := p2.cell; have P3 := Lib.hid p3; have P4 := Lib.hid p4; have P5 := Lib.hid p5; clear p1 p2 p3 p4 p5)
      have hl5 := P4.out.same _ _ HLB.out rfl
      have hd5 := P4.out.same _ _ HDB.out rfl
      exact ⟨hl5, .inr ⟨rfl, (JXE.out _ _).2 ⟨⟨_, _, _, P3.out.putL hl5 rfl z1.out.2.2.2 _⟩, ⟨by have := HQ.out; omega, by omega⟩, World.putObj_heap_same (Array.getElem?_eq_some_iff.1 hl5).1, (World.putObj_heap_other (by omega)).trans hd5⟩⟩⟩
    · have hq1 : ((k : Int) + 1 == most) = false := by simp [hq]
      have hq2 : (((k + 1 : Nat) : Int) == most) = false := beq_eq_false_iff_ne.2 (by omega)
      have HQ : Hid (¬ (k : Int) + 1 = most) := hq
      clear hq
      gi_wp2_with (gi_at_builtin; refine wpListIn_append_own _ rfl _ _ 22 rfl w4.heap.size 46 i0 (.slice none 0 0) 1 24 Tryz.underlying22 hi hz0 hz1 hz2 rfl (by decide) (.slice a k c) k vs rfl HROW.out ⟨Wb.heap.size, 0, none⟩ 1 1 [.slice a9 r.length c9] rfl rfl n3 (by simp [Value.oneCell']) (by unfold maxLen; omega) (by omega) (by have := hsz4.out; simp; omega) ?_; intro v' w1' hown' hgrow _; obtain ⟨g', cap', rfl⟩ := ownsRow_succ hown'; obtain ⟨p1, p2, p3, p4, p5⟩ := STB.out.push HR.out HOB.out AP.out hown' hgrow z1.out.1 hsz4.out z1.out.2.1 z1.out.2.2.1 hS7.out hSr.out; have hc1 := p1.cell; have hf1 := p1.frozen; have hc3 := p2.cell; have P3 := Lib.hid p3; have P4 := Lib.hid p4; have P5 := Lib.hid p5; clear p1 p2 p3 p4 p5)
      have hl5 := P4.out.same _ _ HLB.out rfl
      have hd5 := P4.out.same _ _ HDB.out rfl
      have S2 : RndB X w4 W (D + 1) := HSL.out
      exact ⟨hl5, .inl ⟨rfl, (JE.out _ _).2 ⟨⟨_, _, _, P3.out.putL hl5 rfl z1.out.2.2.2 _⟩, by have := HQ.out; have := HM.out; omega, World.putObj_heap_same (Array.getElem?_eq_some_iff.1 hl5).1, (World.putObj_heap_other (by omega)).trans hd5⟩, (B1.out.trans P5.out).trans (ButS.putObj _ _ S2)⟩⟩
  case post =>
    have FIN : Hid (∀ k a c vs Wf, WaySt w w4.heap.size ways most w.heap.size b7 k a c vs Wf → Wf.heap[D]? = some (.deferred (some [])) → ways.take k = wayCut ways most → WaysPost ways most w (.returned (.tuple #[.slice a k c, .bool true])) (Wf.putObj D (.deferred none))) := fun k a c vs Wf st hd5 hc => by
      have st' := st.putL hd5 rfl (by omega) (.deferred none)
      have hlo : w.heap.size ≤ w4.heap.size := by omega
      exact ⟨a, k, c, vs, rfl, st'.ext, own_base st'.row hlo, by rw [← hc]; exact ⟨st'.rows.1, fun i r v h1 h2 => own_base (st'.rows.2 i r v h1 h2) hlo⟩, st'.apt⟩
    have ZD : Hid (w.heap.size ≤ D + 1 ∧ D ≠ D + 1) := ⟨by omega, by omega⟩
    rintro e W ⟨hv, hq⟩
    refine ⟨hv, ?_⟩
    rcases hq with hj | ⟨k, hj⟩
    · obtain ⟨⟨a, c, vs, st⟩, hm, hl, hd4⟩ := (JE.out _ W).1 hj
      refine ⟨.ready, none, (fun h => by cases h), hl, .inl ⟨rfl, ?_⟩⟩
      obtain ⟨Wf, hWf⟩ : ∃ Wf, W.putObj (D + 1) (.loop (rec .exhausted none)) = Wf := ⟨_, rfl⟩
      rw [hWf]
      have stf : WaySt w w4.heap.size ways most w.heap.size b7 ways.length a c vs Wf := by rw [← hWf]; exact st.putL hl rfl ZD.out.1 _
      have hdf : Wf.heap[D]? = some (.deferred (some [])) := by rw [← hWf]; exact (World.putObj_heap_other ZD.out.2).trans hd4
      have hc7 := stf.bx7.cell
      have F := Lib.hid (FIN.out _ _ _ _ _ stf hdf (by
        unfold wayCut
        rw [if_neg (by omega), List.take_length]))
      have HDF := Lib.hid hdf
      clear stf hdf hWf st hm hl hd4 hj hv sz2 sz3 sz4 hl4 hD4
      gi_wp2
      refine ⟨by simp, .inl ⟨_, _, rfl, run_takeDeferred HDF.out, ?_⟩⟩
      exact ⟨_, results_tmp2 rfl _ _ _, by exact F.out⟩
    · obtain ⟨⟨a, c, vs, st⟩, hm, hl, hd4⟩ := (JXE.out _ W).1 hj
      refine ⟨.done, some (.exit 0), (fun h => by cases h), hl, .inr ⟨_, rfl, ?_⟩⟩
      obtain ⟨Wf, hWf⟩ : ∃ Wf, W.putObj (D + 1) (.loop (rec .exhausted (some (.exit 0)))) = Wf := ⟨_, rfl⟩
      rw [hWf]
      have stf : WaySt w w4.heap.size ways most w.heap.size b7 k a c vs Wf := by rw [← hWf]; exact st.putL hl rfl ZD.out.1 _
      have hdf : Wf.heap[D]? = some (.deferred (some [])) := by rw [← hWf]; exact (World.putObj_heap_other ZD.out.2).trans hd4
      have hc7 := stf.bx7.cell
      have F := Lib.hid (FIN.out _ _ _ _ _ stf hdf (by
        have := st.le
        unfold wayCut
        by_cases he : k = ways.length
        · rw [if_neg (by omega), he, List.take_length]
        · rw [if_pos (by omega), show most.toNat = k by omega]))
      have HDF := Lib.hid hdf
      clear stf hdf hWf st hm hl hd4 hj hv sz2 sz3 sz4 hl4 hD4
      gi_wp2
      refine ⟨by simp, .inl ⟨_, _, rfl, run_takeDeferred HDF.out, ?_⟩⟩
      exact ⟨_, results_tmp2 rfl _ _ _, by exact F.out⟩
theorem TrieV.eachOk {w : World} {pt d : Nat} {ways : List (List ByteArray)} (h : TrieV w pt d ways) (hw : Ways d ways) (hd : d ≤ 64) (hn : ways.length ≤ 1000000) : EachOk (some ⟨pt, 0, none⟩) w ways :=
  fun bx l w1 hb he X hX J Jx hJ hY h0 => c_each1 pt d bx l ways w w1 hb h he hw hd hn X hX J Jx hJ hY h0
theorem c_lawWays (pt d : Nat) (ways : List (List ByteArray)) (most : Int) (w : World) (h : TrieV w pt d ways) (hw : Ways d ways) (hd : d ≤ 64) (hn : ways.length ≤ 1000000) :
    Calls Tryz.prog 14 #[.pointer (some ⟨pt, 0, none⟩), .int .i64 most] w (WaysPost ways most w) :=
  c_lawWaysG _ ways most w (h.eachOk hw hd hn) hn
end Go.Proofs.YthjpfplebbnbpaaGreat
