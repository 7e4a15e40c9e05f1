/- The walks of Rows.Each and of the trie's projected: the ways, in their order, each once. -/
import Derived.Test.YthjpfplebbnbpaaGreatSort
import Derived.Test.YthjpfplebbnbpaaGreatInt
import Derived.Test.YthjpfplebbnbpaaGreatTri
namespace Go.Proofs.YthjpfplebbnbpaaGreat
open Go.ChangeShapes Go.WideShapes Go.ChangeAt Go.RowKit Go.Shelf
attribute [local go_sem] Oper.semAt_some
/-- The iterator over copies of the rows. -/
def EachRPost (rs : List (List ByteArray)) (w : World) (e : Ending) (w' : World) : Prop := ∃ bs a c vs, e = .returned (.func (.func 99) #[] #[.pointer (some ⟨bs, 0, none⟩)]) ∧ w.heap.size ≤ bs ∧ bs < w'.heap.size ∧ w'.cell? ⟨bs, 0, none⟩ = some (.slice a rs.length c) ∧ w'.ownsRow w.heap.size 46 1 (.slice a rs.length c) rs.length vs ∧ RowsAt w.heap.size w' vs rs ∧ Ext w w'
theorem c_eachR (lo pb ar : Nat) (rs : List (List ByteArray)) (w : World) (h : RowsV w lo pb ar rs) (hn : rs.length ≤ 1000000) (hr : ∀ r ∈ rs, r.length ≤ 1000000) :
    Calls Tryz.prog 72 #[.pointer (some ⟨pb, 0, none⟩)] w (EachRPost rs w) := by
  have AL := Lib.hid (c_all lo pb ar rs w h hn hr)
  clear h hn hr
  go_enter Tryz.func72, Tryz.ntmps72
  go_wp2_with (first
    | (go_at_call 53; (with_reducible refine AL.out.mono ?_); rintro e w1 ⟨a7, c7, vs, rfl, r7, h7, e7⟩)
    | (go_at_call 87; (with_reducible refine (c_values _ _ _ _).mono ?_); rintro e w2 ⟨rfl, hw2⟩; obtain rfl := hw2.symm))
  go_returns
  exact ⟨w1.heap.size, a7, c7, vs, rfl, e7.size, by simp, (Boxed.new w1 _ _).cell, up_ext r7 (ext_alloc (Below.refl _ _) _), h7.ext (ext_alloc (Below.refl _ _) _), ext_alloc e7 _⟩
/-- A row's constants in the order's columns. -/
def projM (os : List Int) (r : List ByteArray) : List ByteArray := os.map fun c => r[c.toNat]?.getD ⟨#[]⟩
theorem projM_len (os : List Int) (r : List ByteArray) : (projM os r).length = os.length := by simp [projM]
theorem projM_snoc {os : List Int} {k : Nat} {c : Int} (h : os[k]? = some c) (r : List ByteArray) {x : ByteArray} (hx : r[c.toNat]? = some x) : projM (os.take (k + 1)) r = projM (os.take k) r ++ [x] := by
  rw [take_at h]
  simp [projM, hx]
/-- A row being filled: k texts, the others empty. -/
def fillV (d : Nat) (xs : List ByteArray) : List Value := xs.map Value.string ++ List.replicate (d - xs.length) (.string ⟨#[]⟩)
theorem fillV_len {d : Nat} {xs : List ByteArray} (h : xs.length ≤ d) : (fillV d xs).length = d := by simp [fillV]; omega
theorem fillV_set {d : Nat} {xs : List ByteArray} (h : xs.length < d) (x : ByteArray) : (fillV d xs).set xs.length (.string x) = fillV d (xs ++ [x]) := by
  unfold fillV
  rw [List.set_append_right _ _ (by simp), List.length_map, Nat.sub_self, List.map_append, List.append_assoc, List.length_append, List.length_singleton]
  obtain ⟨m, hm⟩ : ∃ m, d - xs.length = m + 1 := ⟨d - xs.length - 1, by omega⟩
  rw [hm, List.replicate_succ, List.set_cons_zero, show d - (xs.length + 1) = m by omega]
  rfl
theorem fillV_full {d : Nat} {xs : List ByteArray} (h : xs.length = d) : fillV d xs = xs.map Value.string := by simp [fillV, h]
theorem made_one (d : Nat) (r : List ByteArray) : (madeCells (Value.string ⟨#[]⟩).cells d).toList = fillV d (projM ([].take 0) r) := by
  apply List.ext_getElem
  · simp [madeCells, fillV, projM]
  · intro i h1 h2
    simp [madeCells, fillV, projM, Value.cells, Nat.mod_one]
def ProjPost (os : List Int) (rs : List (List ByteArray)) (w : World) (e : Ending) (w' : World) : Prop := ∃ a c us ways, e = .returned (.slice a ways.length c) ∧ w'.ownsRow w.heap.size 46 1 (.slice a ways.length c) ways.length us ∧ RowsAt w.heap.size w' us ways ∧ Ext w w' ∧ Ways os.length ways ∧ (∀ x, x ∈ ways ↔ ∃ r ∈ rs, projM os r = x) ∧ ways.length ≤ rs.length
set_option maxRecDepth 100000 in
set_option maxHeartbeats 4000000 in
theorem c_projected (lo pb ar : Nat) (rs : List (List ByteArray)) (os : List Int) (ao : Option Addr) (d co : Nat) (w : World) (h : RowsV w lo pb ar rs) (hn : rs.length ≤ 1000000) (hr : ∀ r ∈ rs, r.length = ar) (har : ar ≤ 64) (ho : IntsAt w ao d os) (hv : ∀ c ∈ os, 0 ≤ c ∧ c < (ar : Int)) (hd : d ≤ 64) :
    Calls Tryz.prog 55 #[.pointer (some ⟨pb, 0, none⟩), .slice ao d co] w (ProjPost os rs w) := by
  obtain ⟨i0, hi, hz0, hz1, hz2⟩ := info_parts info_row
  obtain ⟨j0, hj, yz0, yz1, yz2⟩ := info_parts info_str
  refine (callsIn_wide (n := 5)).1 ?_
  refine callsIn_of_wp_marks Tryz.func55 rfl trivial ?_
  simp only [Tryz.ntmps55, List.size_toArray, List.length_cons, List.length_nil, Nat.reduceAdd, Nat.reduceSub, Array.replicate_succ, Array.replicate_zero, List.push_toArray, List.append_toArray, List.nil_append, List.cons_append]
  obtain ⟨w1, hw1⟩ : ∃ w1, w1 = (w.alloc (.cells #[.slice ao d co] 23)).alloc (.cells #[.slice none 0 0] 22) := ⟨_, rfl⟩
  have hE1 : Ext w w1 := by rw [hw1]; exact ext_alloc (ext_alloc (Below.refl _ w) _) _
  have EA := Lib.hid (c_eachR lo pb ar rs w1 (h.ext hE1) hn (fun r hr2 => by have := hr r hr2; omega))
  have HR := Lib.hid hr
  have HO := Lib.hid ho
  have HV := Lib.hid hv
  clear h hr ho hv
  gi_wp2_with (first
    | (refine ⟨trivial, ?_⟩; gi_at_call 72; rw [← hw1]; refine (callsIn_wide.2 EA.out).mono ?_; rintro e w2 ⟨bs, a2, c2, vs, rfl, hb1, hb2, hb3, hb4, hb5, hb6⟩))
  have sz1 : w1.heap.size = w.heap.size + 2 := by rw [hw1]; simp
  have sz2 : w.heap.size + 2 ≤ w2.heap.size := by have := hb6.size; omega
  have hbx0 : Boxed w1 (w.heap.size + 1) 22 (.slice none 0 0) := by
    have := Boxed.new (w.alloc (.cells #[.slice ao d co] 23)) 22 (.slice none 0 0)
    rw [hw1]
    simpa using this
  have hbx := boxed_ext hbx0 hb6
  have hco1 : w1.cell? ⟨w.heap.size, 0, none⟩ = some (.slice ao d co) := by
    rw [hw1]
    exact keep (ext_alloc (Below.refl _ _) _) (Boxed.new w 23 (.slice ao d co)).cell
  have HCO := Lib.hid hco1
  have HE1 := Lib.hid hE1
  have h1v : ∀ v ∈ vs, ∃ a m c, v = Value.slice a m c := fun v hv => by
    obtain ⟨k, hk⟩ := List.mem_iff_getElem?.1 hv
    have hkl := (List.getElem?_eq_some_iff.1 hk).1
    obtain ⟨r, hrr⟩ : ∃ r, rs[k]? = some r := ⟨_, List.getElem?_eq_getElem (by have := hb5.1; omega)⟩
    obtain ⟨a, c, e, _⟩ := own_form (hb5.2 k r v hrr hk)
    exact ⟨a, _, c, e⟩
  have HW1 := Lib.hid hw1
  clear hw1 hbx0 hco1
  refine wpIn_rangeFunc_ownG (F := Fence.wide) rfl (by omega) (gf := 99) (lb := #[.pointer (some ⟨bs, 0, none⟩)]) rfl trivial (enters_of Tryz.func99 (by kernel_rfl) rfl)
    (values_stops Fence.wide 4 trivial rfl (by omega) bs _ rs.length c2 a2 vs w2 hb4 h1v hn (fun b => b = w.heap.size + 1 ∨ w2.heap.size ≤ b) (fun b e => by have := hb4.lt b e; omega) hb2 hb3) (fun h k => h.trans k) (fun W l o o' hl _ _ _ => ButS.putObj W o' (.inr hl)) (Below.refl _ _) (fun _ => rfl)
    (fun pre W => BoxRows w2.heap.size (w.heap.size + 1) ((nthRows rs pre).map (projM os)) W ∧ RowsAt w1.heap.size W vs rs ∧ w2.heap.size ≤ W.heap.size ∧ Below (w.heap.size + 1) w1 W)
    (fun _ _ _ => False)
    ?own
    (fun _ _ _ _ _ hs _ _ => hs)
    ⟨⟨[], none, 0, hbx, World.ownsRow_nil _ _ _ _, rfl, fun i r v h => by simp [nthRows] at h⟩, hb5, Nat.le_refl _, hb6.mono (by omega)⟩
    (fun x => { tmps := #[.pointer (some ⟨pb, 0, none⟩), .slice ao d co, undef, .pointer (some ⟨w.heap.size, 0, none⟩), .slice none 0 0, .pointer (some ⟨w.heap.size + 1, 0, none⟩), vs[x.1]?.getD undef, undef, undef, undef, .pointer (some ⟨pb, 0, none⟩), .func (.func 99) #[] #[.pointer (some ⟨bs, 0, none⟩)], vs[x.1]?.getD undef, undef, undef, undef, undef, undef, undef, undef, undef, undef, undef, undef, undef, undef, undef, undef, undef, undef, undef, undef, undef, undef, undef, undef, undef, undef, undef], defers := [] }) ?assign ?body ?done ?stop
  case own =>
    refine OwnFrom.and (Own.from (fun s A B row hs hg hr => hs.keptN hg hr) _) (OwnFrom.and (Own.from (fun s A B row hs hg hr => hs.keptN hg hr) _) (OwnFrom.and (fun s A B row hs hg hr => Nat.le_trans hs hg.size) (ownFrom_below (by omega) (by omega))))
  case assign =>
    intro l x W K hK
    gi_wp2
    exact hK
  case body =>
    rintro l pre x W ⟨⟨us, a9, c9, bx9, row9, at9⟩, hvs, hsz, hE⟩ hlt
    obtain ⟨r, hr1⟩ : ∃ r, rs[x.1]? = some r := ⟨_, List.getElem?_eq_getElem x.2⟩
    obtain ⟨v, hv1⟩ : ∃ v, vs[x.1]? = some v := ⟨_, List.getElem?_eq_getElem (by rw [hvs.1]; exact x.2)⟩
    have hrl := HR.out r (List.mem_of_getElem? hr1)
    have ho1 := hvs.2 _ r v hr1 hv1
    obtain ⟨a7, c7, rfl, _⟩ := own_form ho1
    have hpl : ((nthRows rs pre).map (projM os)).length = pre.length := by simp [nthRows]
    have hv2 : vs[x.1]?.getD undef = .slice a7 r.length c7 := by rw [hv1]; rfl
    rw [hv2]
    obtain ⟨qs, hqs⟩ : ∃ qs, (nthRows rs pre).map (projM os) = qs := ⟨_, rfl⟩
    have HQS : Hid ((nthRows rs (pre ++ [x])).map (projM os) = qs ++ [projM os r]) := by show _ = _; rw [nthRows_snoc rs pre x hr1, List.map_append, hqs]; rfl
    rw [hqs] at bx9 row9 at9 hpl
    have HST := Lib.hid (own_strs ho1 (own_len ho1).1)
    have hc9 := bx9.cell
    have hBW := bx9.lt
    have VS := Lib.hid hvs
    have hEW : Ext w W := HE1.out.trans (hE.mono (by omega))
    have hco : W.cell? ⟨w.heap.size, 0, none⟩ = some (.slice ao d co) := by
      rw [hE.cell (p := ⟨w.heap.size, 0, none⟩) (Nat.lt_succ_self _)]
      exact HCO.out
    have HOW := Lib.hid (HO.out.keep hEW)
    have hod : os.length = d := HO.out.2.1
    have hql : qs.length ≤ 1000000 := by omega
    obtain ⟨wm, hm, om, gm⟩ := run_make_full (P := Tryz.prog) W W.heap.size 46 9 j0 (.string ⟨#[]⟩) 1 Tryz.underlying46 hj yz0 yz1 .i64 .i64 d (by rw [yz2]; omega) (by unfold maxLen; omega) (Nat.le_refl _)
    have hEm : Ext W wm := ⟨gm.os, gm.tape, gm.output, gm.size, fun i hi => gm.block i hi (by simp)⟩
    have hcom := keep hEm hco
    have HCO9 := Lib.hid (keep hEm hc9)
    have HEm := Lib.hid hEm
    have HOM : Hid (wm.ownsRow W.heap.size 9 1 (.slice (some ⟨W.heap.size, 0, none⟩) d d) d (fillV d (projM (os.take 0) r))) := by
      show World.ownsRow _ _ _ _ _ _ _
      have e : (madeCells (Value.string ⟨#[]⟩).cells (d * 1)).toList = fillV d (projM (os.take 0) r) := by
        rw [Nat.mul_one]
        exact made_one _ _
      rw [← e]
      exact om
    clear hv2 hqs hvs hpl om hEm gm
    gi_wp2
    gi_loopw [18] (fun v18 wj => ∃ k : Nat, k ≤ d ∧ v18 = .int .i64 (k : Int) ∧ wj.ownsRow W.heap.size 9 1 (.slice (some ⟨W.heap.size, 0, none⟩) d d) d (fillV d (projM (os.take k) r)) ∧ Ext W wj) (fun v18 _ => d - (intOf v18).toNat)
    case atStart => exact ⟨0, by omega, rfl, HOM.out, HEm.out⟩
    case round =>
      obtain ⟨k, hk, rfl, hown, hEj⟩ := hrel
      have HOJ := Lib.hid hown
      have HEJ := Lib.hid hEj
      clear hown hEj
      have hpk : (projM (os.take k) r).length = k := by rw [projM_len, List.length_take]; omega
      have HPK := Lib.hid hpk
      by_cases hlt : k < d
      · have hki : (k : Int) < (d : Int) := by omega
        obtain ⟨c, b1, o1, hx, rfl, h1⟩ := (HOW.out.keep HEJ.out).2.at hlt
        obtain ⟨hc0, hc1⟩ := HV.out c (List.mem_of_getElem? hx)
        obtain ⟨m, rfl⟩ : ∃ m : Nat, c = (m : Int) := ⟨c.toNat, by omega⟩
        have HX := Lib.hid hx
        have g1 : wr.cell? ⟨b1, o1 + k, none⟩ = some (.int .i64 (m : Int)) := by simpa [intAt] using h1
        clear hx h1
        obtain ⟨t, b2, o2, ht, rfl, h2⟩ := (HST.out.keep HEJ.out).2.at (i := m) (by omega)
        have HT := Lib.hid ht
        have g2 : wr.cell? ⟨b2, o2 + m, none⟩ = some (.string t) := by simpa [strAt] using h2
        clear ht h2
        have g3 : wr.cell? ⟨W.heap.size, k, none⟩ = some (.string ⟨#[]⟩) := by
          have := HOJ.out.cells (g := W.heap.size) rfl k (.string ⟨#[]⟩) (by
            unfold fillV
            rw [List.getElem?_append_right (by rw [List.length_map, hpk]; exact Nat.le_refl _), List.length_map, hpk, Nat.sub_self, List.getElem?_replicate, if_pos (by omega)])
          rwa [Addr.add_lit, Nat.zero_add] at this
        have g4 : wr.frozen? ⟨W.heap.size, k, none⟩ = false := HOJ.out.frozenAt _
        clear hpk
        gi_wp2
        go_roundw
        case rel =>
          have s1 := (HOJ.out.stored k (.string t)).1
          have e : (fillV d (projM (os.take k) r)).set k (.string t) = fillV d (projM (os.take (k + 1)) r) := by
            rw [projM_snoc HX.out r HT.out, ← fillV_set (by rw [HPK.out]; exact hlt), HPK.out]
          rw [e] at s1
          exact ⟨k + 1, by omega, by go_num, s1, HEJ.out.setCell (Nat.le_refl _) _⟩
        case measure => simp [intOf]; omega
      · obtain rfl : k = d := by omega
        have hge : ¬ (k : Int) < (k : Int) := by omega
        have bxW := boxed_ext bx9 HEJ.out
        have hc10 := bxW.cell
        have HROW := Lib.hid ((up_ext row9 HEJ.out).alloc (.cells #[.slice (some ⟨W.heap.size, 0, none⟩) k k] 46))
        have HOJ2 : Hid (wr.ownsRow W.heap.size 9 1 (.slice (some ⟨W.heap.size, 0, none⟩) k k) (projM os r).length ((projM os r).map Value.string)) := by
          have h2 := HOJ.out
          rw [fillV_full HPK.out] at h2
          have e : os.take k = os := List.take_of_length_le (by omega)
          rw [e] at h2
          show World.ownsRow _ _ _ _ _ _ _
          rw [projM_len, hod]
          exact h2
        have n3 := cell_one_new wr (.slice (some ⟨W.heap.size, 0, none⟩) k k) 46
        have hsz2 := HEJ.out.size
        gi_wp2_with (gi_at_builtin; refine wpListIn_append_own _ rfl _ _ 22 rfl w2.heap.size 46 i0 (.slice none 0 0) 1 24 Tryz.underlying22 hi hz0 hz1 hz2 rfl (by decide) (.slice a9 qs.length c9) qs.length us rfl HROW.out ⟨wr.heap.size, 0, none⟩ 1 1 [.slice (some ⟨W.heap.size, 0, none⟩) k k] rfl rfl n3 (by simp [Value.oneCell']) (by unfold maxLen; omega) (by omega) (by simp; omega) ?_; intro v' w1' hown' hgrow _; obtain ⟨g', cap', rfl⟩ := ownsRow_succ hown'; obtain ⟨p1, p2, p3, p4, p5, p6⟩ := BoxRows.push (n0 := w.heap.size + 1) bxW (up_ext row9 HEJ.out) (at9.ext HEJ.out) (own_base HOJ2.out hsz) hown' hgrow (by omega) (Nat.le_refl _) (by omega); have hc1 := p1.cell; have hf1 := p1.frozen)
        exact ⟨((KeepsOthers.ext HEJ.out).trans p3).from _, ((ButS.refl _ W).ext HEJ.out).trans p5, by rw [HQS.out]; exact p2, p6 _ _ _ (sz1 ▸ VS.out.ext HEJ.out), by have := p5.size; omega, hE.trans ((HEJ.out.mono (by have := hE.size; omega)).trans p4)⟩
  case done =>
    rintro D ys W hD rfl ⟨⟨us, a9, c9, bx9, row9, at9⟩, hvs, hsz, hE⟩ hK
    rw [nthRows_to rs (Nat.le_refl _), List.take_length] at bx9 row9 at9
    rw [List.length_map] at bx9 row9
    have hc9 := bx9.cell
    obtain ⟨wz, hwz⟩ : ∃ wz, rs.map (projM os) = wz := ⟨_, rfl⟩
    have HWZ := Lib.hid hwz
    rw [hwz] at at9
    have HR9 := Lib.hid row9
    have SO := Lib.hid (c_sort w2.heap.size a9 rs.length c9 us wz W row9 at9 hn)
    have CO : Hid (∀ us3 ws3 w3, w3.ownsRow w2.heap.size 46 1 (.slice a9 rs.length c9) rs.length us3 → RowsAt w2.heap.size w3 us3 ws3 → Calls Tryz.prog 76 #[.slice a9 rs.length c9, .func (.func 77) #[] #[]] w3 (CompPost w2.heap.size a9 rs.length c9 ws3 w3)) := fun us3 ws3 w3 h1 h2 => c_compact w2.heap.size a9 rs.length c9 us3 ws3 w3 h1 h2 hn
    have keepB : ∀ w3, ButS (fun b => (Value.slice a9 rs.length c9).ownBlock = some b) W w3 → w3.cell? ⟨w.heap.size + 1, 0, none⟩ = some (.slice a9 rs.length c9) := fun w3 h => h.cell (fun e => bx9.not_row (by decide) row9 e.symm) hc9
    have KB := Lib.hid keepB
    clear hwz at9 row9 keepB
    gi_wp2_with (first
      | (refine ⟨trivial, ?_⟩; gi_at_call 73; refine (callsIn_wide.2 SO.out).mono ?_; rintro e w3 ⟨rfl, us3, ws3, r3, at3, pm3, so3, b3⟩; have hc3 := KB.out _ b3)
      | (refine ⟨trivial, ?_⟩; gi_at_call 76; refine (callsIn_wide.2 (CO.out _ _ _ r3 at3)).mono ?_; rintro e w4 ⟨us4, rfl, r4, at4, b4⟩))
    have hD3 : ∀ {w5 w6 : World} {us5 : List Value} {m : Nat}, w5.heap[D]? = some (.deferred (some [])) → w5.ownsRow w2.heap.size 46 1 (.slice a9 m c9) m us5 → ButS (fun b => (Value.slice a9 m c9).ownBlock = some b) w5 w6 → w6.heap[D]? = some (.deferred (some [])) := fun {w5 w6 us5 m} h1 h2 h3 => by
      rw [← h1]
      refine h3.block D (Array.getElem?_eq_some_iff.1 h1).1 fun e => ?_
      rcases h2.2 with ⟨e1, _⟩ | ⟨g, c', cur, e1, _, hg, _⟩
      · cases e1
        cases e
      · cases e1
        cases e
        rw [hg] at h1
        cases h1
    have hK4 := hD3 (hD3 hK HR9.out b3) r3 b4
    have hg := grownBy_putObj' w4 D (.deferred none)
    have hr4 : ∀ r, some D = some r → ∃ o : Obj, w4.heap[r]? = some o ∧ o.isCells = false := fun r e => by cases e; exact ⟨_, hK4, rfl⟩
    have at10 := at4.keptN hg hr4
    have eW : Ext w W := HE1.out.trans (hE.mono (by omega))
    obtain ⟨m1, m2⟩ := cmpt_spec ws3 so3
    have hmem : ∀ x, x ∈ cmpt ws3 ↔ ∃ r ∈ rs, projM os r = x := fun x => by
      rw [m2, pm3.mem_iff, ← HWZ.out, List.mem_map]
    have hlen : (cmpt ws3).length ≤ rs.length := by
      have h1 := cmpt_len ws3
      rw [pm3.length_eq, ← HWZ.out, List.length_map] at h1
      exact h1
    have hbut : ButS (fun b => w2.heap.size ≤ b) W (w4.putObj D (.deferred none)) := ((b3.trans b4).mono (fun b _ e => (HR9.out.lt b e).1)).trans (ButS.putObj w4 _ hD)
    have eF : Ext w (w4.putObj D (.deferred none)) := ext_of_but eW hbut (fun b hb => by omega)
    refine ⟨by simp, .inl ⟨_, _, rfl, run_takeDeferred hK4, ?_⟩⟩
    exact ⟨_, results_tmp rfl _ _ _, a9, c9, us4, cmpt ws3, rfl, own_base (own_keptN r4 hg hr4) (by omega), ⟨at10.1, fun i r v h1 h2 => own_base (at10.2 i r v h1 h2) (by omega)⟩, eF, ⟨m1, fun x hx => by obtain ⟨r, _, rfl⟩ := (hmem x).1 hx; exact projM_len os r⟩, hmem, hlen⟩
  case stop =>
    rintro D c pre W _ _ h _
    exact h.elim
end Go.Proofs.YthjpfplebbnbpaaGreat
