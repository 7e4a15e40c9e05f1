/- The walks of slices.Delete at rows, of a set's Drop, of Rows.Drop. -/
import Derived.Test.YthjpfplebbnbpaaGreatAddR
import Derived.Deep.RegionLaw
import Derived.Lib.SliceRun
namespace Go.Proofs.YthjpfplebbnbpaaGreat
open Go.ChangeShapes Go.WideShapes Go.ChangeAt Go.RowKit
theorem erase_put (vs : List Value) (i : Nat) (h : i < vs.length) (z : Value) : (putL (putL vs i (vs.drop (i + 1))) (vs.length - 1) [z]).take (vs.length - 1) = vs.eraseIdx i := by
  have e1 := putL_eq (vs.drop (i + 1)) vs i (by rw [List.length_drop]; omega)
  have hl : (vs.take i ++ vs.drop (i + 1)).length = vs.length - 1 := by rw [List.length_append, List.length_take, List.length_drop]; omega
  rw [e1, List.length_drop, putL_eq [z] _ _ (by rw [List.length_append, hl, List.length_drop, List.length_singleton]; omega), List.append_assoc, List.take_append_of_le_length (by rw [List.length_take, List.length_append, hl]; omega), List.take_take, Nat.min_self, List.take_append_of_le_length (by rw [hl]; exact Nat.le_refl _), List.take_of_length_le (by rw [hl]; exact Nat.le_refl _), List.eraseIdx_eq_take_drop_succ]
set_option maxRecDepth 20000 in
set_option maxHeartbeats 2000000 in
theorem c_delete (vs : List Value) (g n cap i base : Nat) (w : World) (ho : w.ownsRow base 46 1 (.slice (some ⟨g, 0, none⟩) n cap) n vs) (h1v : ∀ v ∈ vs, v.oneCell' = true) (hi : i < n) (hcap : n ≤ cap) :
    Calls Tryz.prog 81 #[.slice (some ⟨g, 0, none⟩) n cap, .int .i64 (i : Int), .int .i64 ((i : Int) + 1)] w fun e w' => e = .returned (.slice (some ⟨g, 0, none⟩) (n - 1) cap) ∧ w'.ownsRow base 46 1 (.slice (some ⟨g, 0, none⟩) (n - 1) cap) (n - 1) (vs.eraseIdx i) ∧ w.grownBy w' (some g) := by
  obtain ⟨i0, hi0, hz0, hz1, hz2⟩ := info_parts info_row
  have p1 : (0 : Int) ≤ (i : Int) := by omega
  have p2 : (i : Int) ≤ (cap : Int) := by omega
  have p3 : (i : Int) + 1 ≤ (n : Int) := by omega
  have p4 : (n : Int) ≤ (cap : Int) := by omega
  have p5 : (0 : Int) ≤ (i : Int) + 1 := by omega
  have t1 : ((i : Int) == (i : Int) + 1) = false := beq_eq_false_iff_ne.2 (by omega)
  have HO := Lib.hid ho
  have H1V := Lib.hid h1v
  clear ho h1v
  go_enter Tryz.func81, Tryz.ntmps81
  go_wp2_with fail
  have hl : vs.length = n := by have h := HO.out.1; omega
  have s1 : Hid ((vs.drop (i + 1)).length = (n - (i + 1)) * 1) := by show _ = _; rw [List.length_drop, hl, Nat.mul_one]
  have s2 : Hid (∀ u ∈ vs.drop (i + 1), u.oneCell' = true) := fun u hu => H1V.out u (List.mem_of_mem_drop hu)
  have hcell : ∀ j, j < n → (w.cell? ⟨g, j, none⟩).isSome = true ∧ w.frozen? ⟨g, j, none⟩ = false := fun j hj => by
    refine ⟨?_, HO.out.frozenAt j⟩
    rw [HO.out.cellAt j (by omega), List.getElem?_eq_getElem (by rw [hl]; exact hj)]
    rfl
  have s3 : Hid (∀ t, t < (vs.drop (i + 1)).length → (w.drew.cell? ⟨g, 0 + i * 1 + t, none⟩).isSome = true ∧ w.drew.frozen? ⟨g, 0 + i * 1 + t, none⟩ = false) := fun t ht => by
    rw [s1.out] at ht
    exact hcell _ (by omega)
  have HLN := Lib.hid hl
  obtain ⟨A, hA, hsrc⟩ : ∃ A : Addr, (if cap = i + 1 then some (⟨g, 0, none⟩ : Addr) else some ⟨g, i + 1, none⟩) = some A ∧ Hid (∀ t u, (vs.drop (i + 1))[t]? = some u → w.drew.cell? (A.add t) = some u) := by
    have hh : (vs.drop (i + 1)).length = (n - (i + 1)) * 1 := s1.out
    by_cases h : cap = i + 1
    · refine ⟨⟨g, 0, none⟩, by simp [h], fun t u hu => ?_⟩
      have := (List.getElem?_eq_some_iff.1 hu).1
      omega
    · refine ⟨⟨g, i + 1, none⟩, by simp [h], fun t u hu => ?_⟩
      have ht := (List.getElem?_eq_some_iff.1 hu).1
      rw [Addr.add_lit]
      show w.cell? _ = _
      rw [HO.out.cellAt _ (by omega), ← hu, List.getElem?_drop]
  clear hl hcell
  obtain ⟨W1, hW1⟩ : ∃ W1, W1 = w.drew.setCells g (0 + i * 1) (vs.drop (i + 1)) := ⟨_, rfl⟩
  obtain ⟨O1, G1⟩ := own_setCells (vs.drop (i + 1)) w.drew (0 + i * 1) _ HO.out.drew
  rw [← hW1] at O1 G1
  have hzv : ∀ w, (zeroValue 46).run Tryz.prog w = .ok (.slice none 0 0) w := fun w => by kernel_rfl
  have hcl : (Builtin.clear_ #[22] 0 #[.slice (some ⟨g, i + (n - (i + 1)), none⟩) (n - (i + (n - (i + 1)))) (cap - (i + (n - (i + 1))))]).run Tryz.prog W1 = .ok (.tuple #[]) (W1.setCells g (i + (n - (i + 1))) [.slice none 0 0]) := by
    rw [show n - (i + (n - (i + 1))) = 1 by omega]
    refine Lib.run_clear_slice W1 22 46 0 (.slice none 0 0) Tryz.underlying22 hzv rfl rfl g (i + (n - (i + 1))) 1 _ (by omega) (fun j hj => ?_) (fun j _ => O1.frozenAt _)
    rw [O1.cellAt _ (by omega)]
    have := O1.1
    rw [List.getElem?_eq_getElem (by omega)]
    rfl
  have hW := Lib.hid hW1
  have HO1 := Lib.hid O1
  have HG1 := Lib.hid G1
  clear hW1 O1 G1 hzv
  go_region_law (refine step_append_room rfl (.tmp 22) (.tmp 25) 22 rfl 46 i0 1 Tryz.underlying22 hi0 hz1 g 0 i cap (by simp [Act.eval, Act.put]) A (n - (i + 1)) (cap - (i + 1)) (vs.drop (i + 1)) (by simp [Act.eval, Act.put]) s1.out hsrc.out s2.out (by omega) s3.out ?_; rw [← hW.out])
  go_wp2
  go_returns
  obtain ⟨O2, G2⟩ := own_setCells [.slice none 0 0] W1 (i + (n - (i + 1))) _ HO1.out
  have e1 : i + (n - (i + 1)) = n - 1 := by omega
  refine ⟨by rw [e1]; rfl, ?_, ?_⟩
  · obtain ⟨m, rfl⟩ : ∃ m, n = m + 1 := ⟨n - 1, by omega⟩
    have O3 := own_pop O2
    have e2 := erase_put vs i (by rw [HLN.out]; exact hi) (.slice none 0 0)
    rw [HLN.out] at e2
    rw [e1, Nat.zero_add, Nat.mul_one, Nat.mul_one] at O3
    rw [show m + 1 - 1 = m from rfl] at e2 O3 ⊢
    rw [e2] at O3
    rw [e1]
    exact O3
  · refine ⟨G2.os.trans HG1.out.os, ?_, G2.output.trans HG1.out.output, Nat.le_trans HG1.out.size G2.size, fun k hk hne => (G2.block k (Nat.lt_of_lt_of_le hk HG1.out.size) hne).trans (HG1.out.block k hk hne)⟩
    exact G2.tape.trans HG1.out.tape
/-- The rows without one. -/
def dropRow (rs : List (List ByteArray)) (t : List ByteArray) : List (List ByteArray) := if foundB rs t = true then rs.eraseIdx (lowB rs t) else rs
theorem dropRow_rising {rs : List (List ByteArray)} (h : Rising rs) (t : List ByteArray) : Rising (dropRow rs t) := by
  unfold dropRow
  split
  · exact h.sublist (List.eraseIdx_sublist _ _)
  · exact h
theorem dropRow_len (rs : List (List ByteArray)) (t : List ByteArray) : (dropRow rs t).length ≤ rs.length := by
  unfold dropRow
  split
  · exact (List.eraseIdx_sublist _ _).length_le
  · exact Nat.le_refl _
theorem dropRow_sub {rs : List (List ByteArray)} {t x : List ByteArray} (h : x ∈ dropRow rs t) : x ∈ rs := by
  unfold dropRow at h
  split at h
  · exact (List.eraseIdx_sublist _ _).subset h
  · exact h
theorem erase_two {α β : Type} {P : α → β → Prop} {rs : List α} {vs : List β} {i : Nat} (h : ∀ (k : Nat) (r : α) (v : β), rs[k]? = some r → vs[k]? = some v → P r v) : ∀ (k : Nat) (r : α) (v : β), (rs.eraseIdx i)[k]? = some r → (vs.eraseIdx i)[k]? = some v → P r v := by
  intro k r v hr hv
  rw [List.getElem?_eraseIdx] at hr hv
  split at hr
  · rw [if_pos (by assumption)] at hv
    exact h k r v hr hv
  · rw [if_neg (by assumption)] at hv
    exact h _ r v hr hv
/-- The list of a Rows lies ahead of block B. -/
def LowList (w : World) (pb B : Nat) : Prop := pb < B ∧ ∀ v b, w.cell? ⟨pb, 1, none⟩ = some v → v.ownBlock = some b → b < B
theorem ButS.both {S T : Nat → Prop} {w x : World} (h : ButS S w x) (k : ButS T w x) : ButS (fun b => S b ∧ T b) w x :=
  ⟨h.os, h.tape, h.output, h.size, fun b hb hn => by
    by_cases hs : S b
    · exact k.block b hb (fun ht => hn ⟨hs, ht⟩)
    · exact h.block b hb hs⟩
def DropPost (lo pb ar : Nat) (rs : List (List ByteArray)) (t : List ByteArray) (w : World) (e : Ending) (w' : World) : Prop := e = .returned (.bool (foundB rs t)) ∧ RowsV w' lo pb ar (dropRow rs t) ∧ ButS (fun b => b = pb ∨ lo ≤ b) w w' ∧ ∀ B, LowList w pb B → ButS (fun b => b < B) w w' ∧ LowList w' pb B
set_option maxRecDepth 100000 in
set_option maxHeartbeats 4000000 in
theorem c_dropS (lo pb ar : Nat) (rs : List (List ByteArray)) (t : List ByteArray) (a : Option Addr) (n c : Nat) (w : World) (h : RowsV w lo pb ar rs) (hr : Rising rs) (ht : StrsAt w a n t) (hn : rs.length ≤ 65536) :
    Calls Tryz.prog 60 #[.pointer (some ⟨pb, 0, none⟩), .slice a n c] w (DropPost lo pb ar rs t w) := by
  obtain ⟨ai, ci, h1, hit⟩ := h.items (by unfold maxLen; omega)
  obtain ⟨a0, c0, vs, h1', h2, h3⟩ := h.row
  rw [h1] at h1'
  cases h1'
  have FIND := Lib.hid (c_find rs t pb ai rs.length ci a n c w h.c0 h1 hit ht (hr.cut t) (by omega))
  have hlow := (low_spec hr t).1
  have hfi : foundB rs t = true → lowB rs t < rs.length := fun hf => by
    unfold foundB at hf
    cases hx : rs[lowB rs t]? with
    | none => rw [hx] at hf; cases hf
    | some r => exact (List.getElem?_eq_some_iff.1 hx).1
  have h1v : ∀ v ∈ vs, v.oneCell' = true := fun v hv => by
    obtain ⟨k, hk⟩ := List.mem_iff_getElem?.1 hv
    have hlen : vs.length = rs.length := by have := h2.1; omega
    have hkl := (List.getElem?_eq_some_iff.1 hk).1
    obtain ⟨r, hrr⟩ : ∃ r, rs[k]? = some r := ⟨_, List.getElem?_eq_getElem (by omega)⟩
    obtain ⟨_, _, e, _⟩ := own_form (h3 k r v hrr hk)
    rw [e]
    rfl
  have H := Lib.hid h
  have H2 := Lib.hid h2
  have H3 := Lib.hid h3
  have HV := Lib.hid h1v
  have HFI := Lib.hid hfi
  clear hit hr h1v h2 h3 ht hfi
  obtain ⟨f, hf⟩ : ∃ f, foundB rs t = f := ⟨_, rfl⟩
  have HF := Lib.hid hf
  rw [hf] at FIND HFI
  obtain ⟨i, hi⟩ : ∃ i, lowB rs t = i := ⟨_, rfl⟩
  have HI := Lib.hid hi
  rw [hi] at FIND hlow HFI
  have hpw : pb < w.heap.size := World.block_lt_of_cell? w ⟨pb, 1, none⟩ h1
  have HPW := Lib.hid hpw
  cases f with
  | false =>
    have FIN : Hid (DropPost lo pb ar rs t w (.returned (.bool false)) w) := ⟨by rw [hf], by unfold dropRow; rw [if_neg (by rw [hf]; simp)]; exact h, ButS.refl _ _, fun B hB => ⟨ButS.refl _ _, hB⟩⟩
    clear h h1 hf hi hpw
    go_enter Tryz.func60, Tryz.ntmps60
    go_wp2_with (go_at_call 80; (with_reducible refine FIND.out.mono ?_); rintro e w1 ⟨rfl, hw1⟩; obtain rfl := hw1.symm)
    go_returns
    exact FIN.out
  | true =>
    have hin := HFI.out rfl
    obtain ⟨g, cc, e, hnc⟩ := own_formS H2.out (by omega)
    cases e
    have LTV : Hid (pb < lo) := H.out.lt
    have hgpb : g ≠ pb := by
      have := (H2.out.lt g rfl).1
      have := LTV.out
      omega
    have GPB := Lib.hid hgpb
    have DEL := Lib.hid (c_delete vs g rs.length ci i lo w H2.out HV.out hin hnc)
    have fr := h.free
    have w1 : IntKind.i64.wrap ((i : Int) + 1) = (i : Int) + 1 := by rw [IntKind.wrap_i64]; omega
    obtain ⟨n0, hn0⟩ : ∃ n0, rs.length = n0 := ⟨_, rfl⟩
    have HN0 := Lib.hid hn0
    have C1 := Lib.hid h1
    rw [hn0] at DEL h1 C1
    have FIN : Hid (∀ w', w'.ownsRow lo 46 1 (.slice (some ⟨g, 0, none⟩) (n0 - 1) ci) (n0 - 1) (vs.eraseIdx i) → w.grownBy w' (some g) → w'.cell? ⟨pb, 1, none⟩ = some (.slice (some ⟨g, 0, none⟩) n0 ci) ∧ w'.frozen? ⟨pb, 1, none⟩ = false ∧ DropPost lo pb ar rs t w (.returned (.bool true)) (w'.setCell ⟨pb, 1, none⟩ (.slice (some ⟨g, 0, none⟩) (n0 - 1) ci))) := fun w' r1 r2 => by
      have bb : ButS (fun b => b = g) w w' := (ButS.refl _ w).grown r2 (fun b e => by cases e; exact .inl rfl)
      have k1 := bb.cell (b := pb) (fun e => GPB.out e.symm) C1.out
      have k0 := bb.cell (b := pb) (fun e => GPB.out e.symm) H.out.c0
      have k2 := bb.cell (b := pb) (fun e => GPB.out e.symm) H.out.c2
      have kf : w'.frozen? ⟨pb, 1, none⟩ = false := by
        have := bb.block pb HPW.out (fun e => GPB.out e.symm)
        have h5 := H.out.free
        simp [World.frozen?, this] at h5 ⊢
        exact h5
      have hdl : (dropRow rs t).length = n0 - 1 := by unfold dropRow; rw [if_pos HF.out, HI.out, List.length_eraseIdx, if_pos hin, HN0.out]
      refine ⟨k1, kf, by rw [HF.out], ⟨LTV.out, ?_, ?_, ?_, some ⟨g, 0, none⟩, ci, vs.eraseIdx i, ?_, ?_, ?_⟩, ?_, fun B hB => ⟨(bb.mono (T := fun b => b < B) fun b _ e => by rw [e]; exact hB.2 _ g C1.out rfl).set (.inl hB.1) _ _, hB.1, fun v b hv hb => ?_⟩⟩
      · rw [World.cell?_setCell_other _ _ _ _ (by simp)]
        exact k0
      · rw [World.cell?_setCell_other _ _ _ _ (by simp)]
        exact k2
      · rw [World.frozen?_setCell]
        exact kf
      · rw [hdl]
        exact World.cell?_setCell_same _ _ _ k1
      · rw [hdl]
        exact ownsRow_setCell_below r1 (a := ⟨pb, 1, none⟩) LTV.out _
      · have e5 : dropRow rs t = rs.eraseIdx i := by unfold dropRow; rw [if_pos HF.out, HI.out]
        rw [e5]
        refine erase_two (P := fun (r : List ByteArray) v => (w'.setCell ⟨pb, 1, none⟩ (.slice (some ⟨g, 0, none⟩) (n0 - 1) ci)).ownsRow lo 9 1 v r.length (r.map Value.string)) (fun k r v hr hv => ?_)
        have ho := H3.out k r v hr hv
        refine ownsRow_setCell_below (bb.own ho (fun b e9 e10 => ?_)) (a := ⟨pb, 1, none⟩) LTV.out _
        rcases own_apart ho H2.out (by decide) with h | h
        · rw [h] at e9
          cases e9
        · subst e10
          exact h (e9.trans rfl)
      · exact (bb.mono (T := fun b => b = pb ∨ lo ≤ b) fun b _ e => .inr (by rw [e]; exact (H2.out.lt g rfl).1)).set (.inl (.inl rfl)) _ _
      · rw [World.cell?_setCell_same _ _ _ k1] at hv
        cases hv
        exact hB.2 _ b C1.out hb
    clear h hf hi hpw hn0 hgpb
    go_enter Tryz.func60, Tryz.ntmps60
    go_wp2_with (first
      | (go_at_call 80; (with_reducible refine FIND.out.mono ?_); rintro e w1 ⟨rfl, hw1⟩; obtain rfl := hw1.symm)
      | (go_at_call 81; (with_reducible refine DEL.out.mono ?_); rintro e w7 ⟨rfl, r1, r2⟩; obtain ⟨q1, q2, q3⟩ := FIN.out w7 r1 r2))
    go_returns
    exact q3
def DropRPost (lo pb ar : Nat) (rs : List (List ByteArray)) (t : List ByteArray) (w : World) (e : Ending) (w' : World) : Prop := (∃ b k, e = .returned (.tuple #[.bool b, .int .i64 k])) ∧ RowsV w' lo pb ar (dropRow rs t) ∧ ButS (fun b => b = pb ∨ lo ≤ b) w w' ∧ ∀ B, LowList w pb B → ButS (fun b => b < B) w w' ∧ LowList w' pb B
set_option maxRecDepth 100000 in
theorem c_dropR (lo pb ar : Nat) (rs : List (List ByteArray)) (t : List ByteArray) (a : Option Addr) (n c : Nat) (w : World) (h : RowsV w lo pb ar rs) (hr : Rising rs) (ht : StrsAt w a n t) (htl : t.length = ar) (hn : rs.length ≤ 65536) :
    Calls Tryz.prog 25 #[.pointer (some ⟨pb, 0, none⟩), .slice a n c] w (DropRPost lo pb ar rs t w) := by
  have H := Lib.hid h
  have c2 := h.c2
  obtain rfl : n = ar := by have := ht.2.1; omega
  have DS := Lib.hid (c_dropS lo pb n rs t a n c w h hr ht hn)
  obtain ⟨f, hf⟩ : ∃ f, foundB rs t = f := ⟨_, rfl⟩
  unfold DropPost at DS
  rw [hf] at DS
  clear h hr ht hf
  go_enter Tryz.func25, Tryz.ntmps25
  go_wp2_with (first
    | (go_at_call 58; (with_reducible refine (c_set lo pb n rs _ H.out).mono ?_); rintro e w1 ⟨rfl, hw1⟩; obtain rfl := hw1.symm)
    | (go_at_call 60; (with_reducible refine DS.out.mono ?_); rintro e w8 ⟨rfl, q8, b8, l8⟩))
  go_ret2
  exact ⟨⟨_, _, rfl⟩, q8, b8, l8⟩
end Go.Proofs.YthjpfplebbnbpaaGreat
