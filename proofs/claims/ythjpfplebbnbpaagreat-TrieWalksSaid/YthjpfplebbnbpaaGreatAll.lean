/- The walk of Rows.All: the rows, each in new memory. -/
import Derived.Test.YthjpfplebbnbpaaGreatItems
namespace Go.Proofs.YthjpfplebbnbpaaGreat
open Go.ChangeShapes Go.WideShapes Go.ChangeAt Go.RowKit Go.Shelf
attribute [local go_sem] Oper.semAt_some
theorem own_keptN {W W' : World} {row : Option Nat} {base n size : Nat} {e : TypeId} {v : Value} {xs : List Value} (h : W.ownsRow base e size v n xs) (hg : W.grownBy W' row) (hr : ∀ r, row = some r → ∃ o : Obj, W.heap[r]? = some o ∧ o.isCells = false) : W'.ownsRow base e size v n xs := by
  refine h.kept hg ?_
  rcases h.2 with ⟨rfl, _⟩ | ⟨g, cap, cur, rfl, _, hgb, _⟩
  · exact .inl rfl
  · refine .inr fun e' => ?_
    obtain ⟨o, ho, hc⟩ := hr g (by simpa [Value.ownBlock] using e'.symm)
    rw [hgb] at ho; cases ho; cases hc
theorem RowsAt.keptN {W W' : World} {row : Option Nat} {lo : Nat} {vs : List Value} {rs : List (List ByteArray)} (h : RowsAt lo W vs rs) (hg : W.grownBy W' row) (hr : ∀ r, row = some r → ∃ o : Obj, W.heap[r]? = some o ∧ o.isCells = false) : RowsAt lo W' vs rs :=
  ⟨h.1, fun i r v h1 h2 => own_keptN (h.2 i r v h1 h2) hg hr⟩
theorem boxed_keptN {W W' : World} {row : Option Nat} {B : Nat} {t : TypeId} {v : Value} (h : Boxed W B t v) (hg : W.grownBy W' row) (hr : ∀ r, row = some r → ∃ o : Obj, W.heap[r]? = some o ∧ o.isCells = false) : Boxed W' B t v :=
  h.kept hg fun e => by
    obtain ⟨o, ho, hc⟩ := hr B e.symm
    rw [show W.heap[B]? = _ from h] at ho; cases ho; cases hc
/-- A list of rows of one's own, in a variable's box B. -/
def BoxRows (lo B : Nat) (rs : List (List ByteArray)) (W : World) : Prop := ∃ us a c, Boxed W B 22 (.slice a rs.length c) ∧ W.ownsRow lo 46 1 (.slice a rs.length c) rs.length us ∧ RowsAt lo W us rs
theorem BoxRows.keptN {W W' : World} {row : Option Nat} {lo B : Nat} {rs : List (List ByteArray)} (h : BoxRows lo B rs W) (hg : W.grownBy W' row) (hr : ∀ r, row = some r → ∃ o : Obj, W.heap[r]? = some o ∧ o.isCells = false) : BoxRows lo B rs W' := by
  obtain ⟨us, a, c, h1, h2, h3⟩ := h
  exact ⟨us, a, c, boxed_keptN h1 hg hr, own_keptN h2 hg hr, h3.keptN hg hr⟩
theorem ButS.putObj {S : Nat → Prop} (W : World) {l : Nat} (o : Obj) (h : S l) : ButS S W (W.putObj l o) := (ButS.refl S W).grown (grownBy_putObj' W l o) (fun b e => by cases e; exact .inl h)
/-- What the row's i-th is, by its number. -/
def nthRows (rs : List (List ByteArray)) {N : Nat} (pre : List { j : Nat // j < N }) : List (List ByteArray) := pre.map fun x => rs[x.1]?.getD []
theorem nthRows_to (rs : List (List ByteArray)) {k : Nat} (h : k ≤ rs.length) : nthRows rs (numsTo rs.length k) = rs.take k := by
  induction k with
  | zero => rfl
  | succ k ih =>
    have hk : rs[k]? = some rs[k] := List.getElem?_eq_getElem (by omega)
    rw [numsTo_succ (by omega), take_at hk, ← ih (by omega)]
    simp [nthRows, hk]
theorem nthRows_snoc (rs : List (List ByteArray)) {N : Nat} (pre : List { j : Nat // j < N }) (x : { j : Nat // j < N }) {r : List ByteArray} (h : rs[x.1]? = some r) : nthRows rs (pre ++ [x]) = nthRows rs pre ++ [r] := by simp [nthRows, h]
/-- append in a region that draws, in a round: one step. -/
theorem stepIn_append {F : Fence} {n : Nat} {P : Program} {ops : Array Oper} {o : Oper} {a : Act} {w : World} {K : Act → World → Prop} {Q : Exit → Act → World → Prop} {E : Prop}
    (hg : o.guard = none) (s x : Operand) (t : TypeId) (hop : o.op = Op.call { callee := Callee.builtin Builtin.append, args := #[s, x], argTypes := #[t, t] })
    (base : Nat) (e : TypeId) (i : TypeInfo) (z : Value) (size bytes : Nat) (h1 : P.underlying t = some (.slice e)) (h2 : P.info? e = some i) (h3 : i.zero = some z) (h4 : i.size = size) (h5 : i.bytes = bytes) (h6 : z.cells.size = size) (h7 : 0 < size)
    (v : Value) (k : Nat) (xs : List Value) (hs : a.eval s = v) (hown : w.ownsRow base e size v k xs) (ad : Addr) (m c : Nat) (news : List Value) (hx : a.eval x = .slice (some ad) m c) (hn : news.length = m * size)
    (hc : ∀ j u, news[j]? = some u → w.cell? (ad.add j) = some u) (h1c : ∀ u ∈ news, u.oneCell' = true) (b1 : k + m ≤ maxLen) (b2 : (k + m) * bytes ≤ 140737488355328) (b3 : base ≤ w.heap.size)
    (hK : ∀ v' w', w'.ownsRow base e size v' (k + m) (xs ++ news) → w.grownBy w' v.ownBlock → K (a.put o.dst v') w') :
    if Region.wanted o (yielded ops a.tmps) = true then Oper.wpIn F n P o a w K Q else E := by
  have hw : Region.wanted o (yielded ops a.tmps) = true := by simp [Region.wanted, hg]
  rw [if_pos hw]
  obtain ⟨v', w', hrun, r1, r2, r3⟩ := run_append_own (P := P) w base t o.type e i z size bytes h1 h2 h3 h4 h5 h6 h7 v k xs hown ad m c news hn hc h1c b1 b2 b3
  unfold Oper.wpIn
  refine ⟨?_, ?_⟩
  · simp [Oper.about, hop, resolve, Target.leads, Sem.run_pure]
  · rw [Oper.semAt_plain F _ _ (by rw [hop]; intro c hc'; cases hc')]
    simp [execOp, hop, resolve, invoke, builtin, hs, hx, hrun, Result.andThen]
    exact hK v' w' r1 r2
theorem KeepsOthers.ext {W w : World} (e : Ext W w) : KeepsOthers W w := ⟨e.size, fun k _ hk _ => (e.block k (Array.getElem?_eq_some_iff.1 hk).1).trans hk⟩
theorem boxed_ext {W w : World} {B : Nat} {t : TypeId} {v : Value} (h : Boxed W B t v) (e : Ext W w) : Boxed w B t v := (e.block B h.lt).trans h
theorem str_push {w7 w1 : World} {B l0 : Nat} {o : Obj} {v v' vB : Value} {n : Nat} {us : List Value} {lo m : Nat} {xs : List Value} (hh : w7.ownsRow l0 9 1 v m xs) (hrow : w7.ownsRow lo 46 1 vB n us) (hg : (w7.alloc o).grownBy w1 vB.ownBlock) (hb1 : Boxed w1 B 22 vB) : (w1.setCell ⟨B, 0, none⟩ v').ownsRow l0 9 1 v m xs := by
  have h1 := (hh.alloc o).kept hg (own_apart (hh.alloc o) (hrow.alloc o) (by decide))
  exact own_set_other h1 (.inr (hb1.not_row (by decide) h1).symm) v'
theorem rows_snoc {lo : Nat} {W : World} {us : List Value} {rs : List (List ByteArray)} (h : RowsAt lo W us rs) {u : Value} {r : List ByteArray} (hu : W.ownsRow lo 9 1 u r.length (r.map Value.string)) : RowsAt lo W (us ++ [u]) (rs ++ [r]) := by
  refine ⟨by simp [h.1], fun i x v hx hv => ?_⟩
  by_cases hi : i < rs.length
  · rw [List.getElem?_append_left hi] at hx
    rw [List.getElem?_append_left (by rw [h.1]; exact hi)] at hv
    exact h.2 i x v hx hv
  · have hl := (List.getElem?_eq_some_iff.1 hx).1
    rw [List.length_append, List.length_singleton] at hl
    obtain rfl : i = rs.length := by omega
    rw [List.getElem?_append_right (Nat.le_refl _), Nat.sub_self] at hx
    rw [← h.1, List.getElem?_append_right (Nat.le_refl _), Nat.sub_self] at hv
    cases hx
    cases hv
    exact hu
/-- One row more in the variable's box. -/
theorem BoxRows.push {w7 w1 : World} {lo B n0 : Nat} {rs : List (List ByteArray)} {r : List ByteArray} {a : Option Addr} {c : Nat} {us : List Value} {u v' : Value} {o : Obj} (hb : Boxed w7 B 22 (.slice a rs.length c)) (hrow : w7.ownsRow lo 46 1 (.slice a rs.length c) rs.length us) (hrs : RowsAt lo w7 us rs) (hu : w7.ownsRow lo 9 1 u r.length (r.map Value.string)) (hown : w1.ownsRow lo 46 1 v' (rs.length + 1) (us ++ [u])) (hg : (w7.alloc o).grownBy w1 (Value.slice a rs.length c).ownBlock) (hn0 : n0 ≤ lo) (hB : n0 ≤ B) (hlo : lo ≤ w7.heap.size) :
    Boxed w1 B 22 (.slice a rs.length c) ∧ BoxRows lo B (rs ++ [r]) (w1.setCell ⟨B, 0, none⟩ v') ∧ KeepsOthers w7 (w1.setCell ⟨B, 0, none⟩ v') ∧ Below n0 w7 (w1.setCell ⟨B, 0, none⟩ v') ∧ ButS (fun b => b = B ∨ lo ≤ b) w7 (w1.setCell ⟨B, 0, none⟩ v') ∧ (∀ l0 vs qs, RowsAt l0 w7 vs qs → RowsAt l0 (w1.setCell ⟨B, 0, none⟩ v') vs qs) := by
  obtain ⟨q1, q2, q3, q4, q5⟩ := hb.appended (n₀ := n0) (by decide) (own_base hrow hn0) (Nat.le_trans hn0 hlo) hB (own_base hown hn0) hg
  obtain ⟨g, c', rfl⟩ := ownsRow_succ hown
  have keepR : ∀ l0 vs qs, RowsAt l0 w7 vs qs → RowsAt l0 (w1.setCell ⟨B, 0, none⟩ (.slice (some ⟨g, 0, none⟩) (rs.length + 1) c')) vs qs := fun l0 vs qs hh => ⟨hh.1, fun i x v hx hv => str_push (hh.2 i x v hx hv) hrow hg q1⟩
  refine ⟨q1, ⟨us ++ [u], some ⟨g, 0, none⟩, c', ?_, ?_, ?_⟩, q4, q5, (((ButS.refl _ w7).alloc o).grown hg (fun b e => .inl (.inr (hrow.lt b e).1))).set (.inl (.inl rfl)) _ _, keepR⟩
  · rw [List.length_append, List.length_singleton]
    exact q2
  · rw [List.length_append, List.length_singleton]
    exact own_set_other hown (.inr (q1.not_row (by decide) hown).symm) _
  · exact rows_snoc (keepR _ _ _ hrs) (str_push hu hrow hg q1)
def AllPost (rs : List (List ByteArray)) (w : World) (e : Ending) (w' : World) : Prop := ∃ a c us, e = .returned (.slice a rs.length c) ∧ w'.ownsRow w.heap.size 46 1 (.slice a rs.length c) rs.length us ∧ RowsAt w.heap.size w' us rs ∧ Ext w w'
set_option maxRecDepth 100000 in
set_option maxHeartbeats 4000000 in
theorem c_all (lo pb ar : Nat) (rs : List (List ByteArray)) (w : World) (h : RowsV w lo pb ar rs) (hn : rs.length ≤ 1000000) (hr : ∀ r ∈ rs, r.length ≤ 1000000) :
    Calls Tryz.prog 53 #[.pointer (some ⟨pb, 0, none⟩)] w (AllPost rs w) := by
  obtain ⟨i0, hi, hz0, hz1, hz2⟩ := info_parts info_row
  refine (callsIn_wide (n := 5)).1 ?_
  refine callsIn_of_wp_marks Tryz.func53 rfl trivial ?_
  simp only [Tryz.ntmps53, List.size_toArray, List.length_cons, List.length_nil, Nat.reduceAdd, Nat.reduceSub, Array.replicate_succ, Array.replicate_zero, List.push_toArray, List.append_toArray, List.nil_append, List.cons_append]
  have H1 := Lib.hid (h.ext (ext_alloc (Below.refl _ w) (.cells #[.slice none 0 0] 22)))
  gi_wp2_with (first
    | (refine ⟨trivial, ?_⟩; gi_at_call 58; refine (callsIn_wide.2 (c_set lo pb ar rs _ H1.out)).mono ?_; rintro e w1 ⟨rfl, hw1⟩; obtain rfl := hw1.symm)
    | (refine ⟨trivial, ?_⟩; gi_at_call 70; refine (callsIn_wide.2 (c_eachS lo pb ar rs _ H1.out hn)).mono ?_; rintro e w2 ⟨bs, a2, c2, vs, rfl, hb1, hb2, hb3, hb4, hb5, hb6⟩))
  have sz0 : (w.alloc (.cells #[.slice none 0 0] 22)).heap.size = w.heap.size + 1 := by simp
  have hbx := boxed_ext (Boxed.new w 22 (.slice none 0 0)) hb6
  have sz2 : w.heap.size + 1 ≤ w2.heap.size := by have := hb6.size; omega
  have hE2 : Ext w w2 := ext_trans (ext_alloc (Below.refl _ w) _) hb6
  have h1v : ∀ v ∈ vs, ∃ a m c, v = Value.slice a m c := fun v hv => by
    obtain ⟨k, hk⟩ := List.mem_iff_getElem?.1 hv
    have hkl := (List.getElem?_eq_some_iff.1 hk).1
    obtain ⟨r, hrr⟩ : ∃ r, rs[k]? = some r := ⟨_, List.getElem?_eq_getElem (by have := hb5.1; omega)⟩
    obtain ⟨a, c, e, _⟩ := own_form (hb5.2 k r v hrr hk)
    exact ⟨a, _, c, e⟩
  refine wpIn_rangeFunc_ownG (F := Fence.wide) rfl (by omega) (gf := 99) (lb := #[.pointer (some ⟨bs, 0, none⟩)]) rfl trivial (enters_of Tryz.func99 (by kernel_rfl) rfl)
    (values_stops Fence.wide 4 trivial rfl (by omega) bs _ rs.length c2 a2 vs w2 hb4 h1v hn (fun b => b = w.heap.size ∨ w2.heap.size ≤ b) (fun b e => by have := hb4.lt b e; omega) hb2 hb3) (fun h k => h.trans k) (fun W l o o' hl _ _ _ => ButS.putObj W o' (.inr hl)) (Below.refl _ _) (fun _ => rfl)
    (fun pre W => BoxRows w2.heap.size w.heap.size (nthRows rs pre) W ∧ RowsAt lo W vs rs ∧ w2.heap.size ≤ W.heap.size ∧ Below w.heap.size w W)
    (fun _ _ _ => False)
    ?own
    (fun _ _ _ _ _ hs _ _ => hs)
    ⟨⟨[], none, 0, hbx, World.ownsRow_nil _ _ _ _, rfl, fun i r v h => by simp [nthRows] at h⟩, hb5.ext hb6, Nat.le_refl _, hE2⟩
    (fun x => { tmps := #[.pointer (some ⟨pb, 0, none⟩), undef, .slice none 0 0, .pointer (some ⟨w.heap.size, 0, none⟩), vs[x.1]?.getD undef, .pointer (some ⟨pb, 0, none⟩), .pointer (some ⟨pb, 0, none⟩), .func (.func 99) #[] #[.pointer (some ⟨bs, 0, none⟩)], vs[x.1]?.getD undef, undef, undef, undef, undef, undef, undef], defers := [] }) ?assign ?body ?done ?stop
  case own =>
    refine OwnFrom.and (Own.from (fun s A B row hs hg hr => hs.keptN hg hr) _) (OwnFrom.and (Own.from (fun s A B row hs hg hr => hs.keptN hg hr) _) (OwnFrom.and (fun s A B row hs hg hr => Nat.le_trans hs hg.size) (ownFrom_below (Nat.le_refl _) (by omega))))
  case assign =>
    intro l x W K hK
    gi_wp2
    exact hK
  case body =>
    rintro l pre x W ⟨⟨us, a9, c9, bx9, row9, at9⟩, hvs, hsz, hE⟩ hlt
    obtain ⟨r, hr1⟩ : ∃ r, rs[x.1]? = some r := ⟨_, List.getElem?_eq_getElem x.2⟩
    obtain ⟨v, hv1⟩ : ∃ v, vs[x.1]? = some v := ⟨_, List.getElem?_eq_getElem (by rw [hvs.1]; exact x.2)⟩
    have hrl := hr r (List.mem_of_getElem? hr1)
    have ho1 := hvs.2 _ r v hr1 hv1
    obtain ⟨a7, c7, rfl, _⟩ := own_form ho1
    have hpl : (nthRows rs pre).length = pre.length := by simp [nthRows]
    have hv2 : vs[x.1]?.getD undef = .slice a7 r.length c7 := by rw [hv1]; rfl
    rw [hv2]
    obtain ⟨qs, hqs⟩ : ∃ qs, nthRows rs pre = qs := ⟨_, rfl⟩
    have HQS : Hid (nthRows rs (pre ++ [x]) = qs ++ [r]) := by show _ = _; rw [nthRows_snoc rs pre x hr1, hqs]
    rw [hqs] at bx9 row9 at9 hpl
    have CL := Lib.hid (c_cloneS r a7 r.length c7 W.drew (own_strs (ho1.drew) (own_len ho1).1) (by omega) (cap_of_own ho1).2)
    have hc9 := bx9.cell
    have hBW := bx9.lt
    have VS := Lib.hid hvs
    have hql : qs.length ≤ 1000000 := by omega
    clear hv2 hqs hvs hpl
    gi_wp2
    refine wpIn_region_any (by kernel_rfl) ?_
    change wpAnyIn _ _ _ _ _ _ _ _ _ (World.drew _)
    refine wpAnyIn_ready (rs := [0, 1]) (by kernel_rfl) (by simp) ?_
    refine (AllReadyIn.cons rfl (fun K hK => ?_) (AllReadyIn.cons rfl (fun K hK => ?_) AllReadyIn.nil))
    focus
      go_simp
      refine hK _ _ ?_
      clear hK K
      refine wpAnyIn_ready (rs := [1]) (by kernel_rfl) (by simp) ?_
      refine (AllReadyIn.cons rfl (fun K hK => ?_) AllReadyIn.nil)
      focus
        go_simp
        refine hK _ _ ?_
        clear hK K
        refine wpAnyIn_ready (rs := [2]) (by kernel_rfl) (by simp) ?_
        refine (AllReadyIn.cons rfl (fun K hK => ?_) AllReadyIn.nil)
        focus
          go_simp
          gi_wp2_with (refine ⟨trivial, ?_⟩; gi_at_call 47; refine (CallsIn.inRound l (callsIn_wide.2 CL.out)).mono ?_; rintro e w7 ⟨a7', c7', rfl, q7, _, e7⟩; have hc7 := keep e7 (show W.drew.cell? ⟨w.heap.size, 0, none⟩ = _ from hc9); have hc8 := fun o => keep (ext_alloc (Below.refl _ w7) o) hc7)
          refine wpAnyIn_ready (rs := [3]) (by kernel_rfl) (by simp) ?_
          refine (AllReadyIn.cons rfl (fun K hK => ?_) AllReadyIn.nil)
          focus
            go_simp
            refine hK _ _ ?_
            clear hK K
    rotate_left
    focus
      go_simp
      refine hK _ _ ?_
      clear hK K
      refine wpAnyIn_ready (rs := [0, 2]) (by kernel_rfl) (by simp) ?_
      refine (AllReadyIn.cons rfl (fun K hK => ?_) (AllReadyIn.cons rfl (fun K hK => ?_) AllReadyIn.nil))
      focus
        go_simp
        refine hK _ _ ?_
        clear hK K
        refine wpAnyIn_ready (rs := [2]) (by kernel_rfl) (by simp) ?_
        refine (AllReadyIn.cons rfl (fun K hK => ?_) AllReadyIn.nil)
        focus
          go_simp
          gi_wp2_with (refine ⟨trivial, ?_⟩; gi_at_call 47; refine (CallsIn.inRound l (callsIn_wide.2 CL.out)).mono ?_; rintro e w7 ⟨a7', c7', rfl, q7, _, e7⟩; have hc7 := keep e7 (show W.drew.cell? ⟨w.heap.size, 0, none⟩ = _ from hc9); have hc8 := fun o => keep (ext_alloc (Below.refl _ w7) o) hc7)
          refine wpAnyIn_ready (rs := [3]) (by kernel_rfl) (by simp) ?_
          refine (AllReadyIn.cons rfl (fun K hK => ?_) AllReadyIn.nil)
          focus
            go_simp
            refine hK _ _ ?_
            clear hK K
      rotate_left
      focus
        go_simp
        gi_wp2_with (refine ⟨trivial, ?_⟩; gi_at_call 47; refine (CallsIn.inRound l (callsIn_wide.2 CL.out)).mono ?_; rintro e w7 ⟨a7', c7', rfl, q7, _, e7⟩; have hc7 := keep e7 (show W.drew.cell? ⟨w.heap.size, 0, none⟩ = _ from hc9); have hc8 := fun o => keep (ext_alloc (Below.refl _ w7) o) hc7)
        refine wpAnyIn_ready (rs := [0, 3]) (by kernel_rfl) (by simp) ?_
        refine (AllReadyIn.cons rfl (fun K hK => ?_) (AllReadyIn.cons rfl (fun K hK => ?_) AllReadyIn.nil))
        focus
          go_simp
          refine hK _ _ ?_
          clear hK K
          refine wpAnyIn_ready (rs := [3]) (by kernel_rfl) (by simp) ?_
          refine (AllReadyIn.cons rfl (fun K hK => ?_) AllReadyIn.nil)
          focus
            go_simp
            refine hK _ _ ?_
            clear hK K
        rotate_left
        focus
          go_simp
          refine hK _ _ ?_
          clear hK K
          refine wpAnyIn_ready (rs := [0]) (by kernel_rfl) (by simp) ?_
          refine (AllReadyIn.cons rfl (fun K hK => ?_) AllReadyIn.nil)
          focus
            go_simp
            refine hK _ _ ?_
            clear hK K
    all_goals
      have bxW := boxed_ext (boxed_ext bx9 (ext_drew (Below.refl _ W))) e7
      have rowW := up_ext (up_ext row9 (ext_drew (Below.refl _ W))) e7
      have atW := (at9.ext (ext_drew (Below.refl _ W))).ext e7
      refine wpAnyIn_ready (rs := [4]) (by kernel_rfl) (by simp) ?_
      refine AllReadyIn.cons rfl (fun K hK => ?_) AllReadyIn.nil
      refine stepIn_append rfl _ _ 22 rfl w2.heap.size 46 i0 (.slice none 0 0) 1 24 Tryz.underlying22 hi hz0 hz1 hz2 rfl (by decide) (.slice a9 qs.length c9) qs.length us rfl (rowW.alloc _) ⟨w7.heap.size, 0, none⟩ 1 1 [.slice a7' r.length c7'] rfl rfl (cell_one_new _ _ _) (by simp [Value.oneCell']) (by unfold maxLen; omega) (by omega) (by have := e7.size; simp at this ⊢; omega) ?_
      intro v' w1 hown' hgrow
      obtain ⟨g', cap', rfl⟩ := ownsRow_succ hown'
      refine hK _ _ ?_
      clear hK K
      obtain ⟨p1, p2, p3, p4, p5, p6⟩ := BoxRows.push (n0 := w.heap.size) bxW rowW atW (own_base q7 (by simpa using hsz)) hown' hgrow (by omega) (Nat.le_refl _) (by have := e7.size; simp at this; omega)
      have hc1 := p1.cell
      have hf1 := p1.frozen
      refine wpAnyIn_ready (rs := [5]) (by kernel_rfl) (by simp) ?_
      refine AllReadyIn.cons rfl (fun K hK => ?_) AllReadyIn.nil
      go_simp
      refine hK _ _ ?_
      clear hK K
      refine wpAnyIn_done (by kernel_rfl) ?_ _
      have eD : Ext W w7 := ext_trans (ext_drew (Below.refl _ W)) e7
      gi_wp2
      exact ⟨((KeepsOthers.ext eD).trans p3).from _, ((ButS.refl _ W).ext eD).trans p5, by rw [HQS.out]; exact p2, p6 _ _ _ (VS.out.ext eD), Nat.le_trans hsz (Nat.le_trans eD.size p5.size), hE.trans ((eD.mono (by have := hE.size; omega)).trans p4)⟩
  case done =>
    rintro D ys W hD rfl ⟨⟨us, a9, c9, bx9, row9, at9⟩, hvs, hsz, hE⟩ hK
    rw [nthRows_to rs (Nat.le_refl _), List.take_length] at bx9 row9 at9
    have hc9 := bx9.cell
    gi_wp2
    refine ⟨by simp, .inl ⟨_, _, rfl, run_takeDeferred hK, ?_⟩⟩
    have hg := grownBy_putObj' W D (.deferred none)
    have hr : ∀ r, some D = some r → ∃ o : Obj, W.heap[r]? = some o ∧ o.isCells = false := fun r e => by cases e; exact ⟨_, hK, rfl⟩
    have at10 := at9.keptN hg hr
    exact ⟨_, results_tmp rfl _ _ _, a9, c9, us, rfl, own_base (own_keptN row9 hg hr) (by omega), ⟨at10.1, fun i r v h1 h2 => own_base (at10.2 i r v h1 h2) (by omega)⟩, hE.trans (belowK_b (w := w) (Nat.le_refl _) W D _ _ (by omega) hK rfl rfl)⟩
  case stop =>
    rintro D c pre W _ _ h _
    exact h.elim
end Go.Proofs.YthjpfplebbnbpaaGreat
