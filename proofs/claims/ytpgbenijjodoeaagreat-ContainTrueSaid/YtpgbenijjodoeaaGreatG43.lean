/- Rows.Add with the blocks of its rows. What Facts' loop keeps: the rows so far, apart from what the search changes. -/
import Derived.Test.YtpgbenijjodoeaaGreatG4
import Derived.Test.YtpgbenijjodoeaaGreatG42
namespace Go.Proofs.YtpgbenijjodoeaaGreat
open Go.ChangeShapes Go.WideShapes Go.ChangeAt Go.RowKit
/-- A block of one of the rows. -/
def RowB (w : World) (pb b : Nat) : Prop := ∃ (a : Addr) (n c i : Nat) (v : Value), w.cell? ⟨pb, 1, none⟩ = some (.slice (some a) n c) ∧ i < n ∧ w.cell? (a.add i) = some v ∧ v.ownBlock = some b
def RowG (pb : Nat) (u : Value) (w w' : World) : Prop := ∀ b, RowB w' pb b → RowB w pb b ∨ u.ownBlock = some b
def RowN (pb : Nat) (w w' : World) : Prop := ∀ b, RowB w' pb b → RowB w pb b ∨ w.heap.size ≤ b
theorem rowB_of {w : World} {pb b lo n c : Nat} {a : Option Addr} {e : TypeId} {vs : List Value} (h1 : w.cell? ⟨pb, 1, none⟩ = some (.slice a n c)) (h2 : w.ownsRow lo e 1 (.slice a n c) n vs) : RowB w pb b ↔ ∃ v ∈ vs, v.ownBlock = some b := by
  have hl : vs.length = n := by have := h2.1; omega
  constructor
  · rintro ⟨a', n', c', i, v, q1, q2, q3, q4⟩
    rw [h1] at q1
    cases q1
    obtain ⟨g, c'', e1, _⟩ := own_formS h2 (by omega)
    cases e1
    obtain ⟨v', hv'⟩ : ∃ v', vs[i]? = some v' := ⟨_, List.getElem?_eq_getElem (by omega)⟩
    have := h2.cells (g := g) rfl i v' hv'
    rw [this] at q3
    cases q3
    exact ⟨v, List.mem_of_getElem? hv', q4⟩
  · rintro ⟨v, hv, q⟩
    obtain ⟨i, hi⟩ := List.mem_iff_getElem?.1 hv
    have hil := (List.getElem?_eq_some_iff.1 hi).1
    obtain ⟨g, c'', e1, _⟩ := own_formS h2 (by omega)
    cases e1
    exact ⟨⟨g, 0, none⟩, n, c, i, v, h1, by omega, h2.cells (g := g) rfl i v hi, q⟩
theorem RowB.but {w w' : World} {lo pb ar b : Nat} {rs : List (List ByteArray)} {S : Nat → Prop} (h : RowsV w lo pb ar rs) (e : ButS S w w') (h1 : ¬ S pb) (h2 : ∀ g, itemB w pb = some g → ¬ S g) : RowB w' pb b ↔ RowB w pb b := by
  obtain ⟨a, c, vs, r1, r2, _⟩ := h.row
  have r1' := e.cell h1 r1
  rw [rowB_of r1 r2, rowB_of r1' (e.own r2 (fun b hb => h2 b (by unfold itemB; rw [r1]; cases a with | none => cases hb | some a => exact hb)))]
theorem rowG_put {w w' : World} {pb lo n c g c' i : Nat} {a : Option Addr} {e : TypeId} {vs : List Value} {u : Value} (hlt : pb < lo) (h1 : w.cell? ⟨pb, 1, none⟩ = some (.slice a n c)) (h2 : w.ownsRow lo e 1 (.slice a n c) n vs) (r1 : w'.ownsRow lo e 1 (.slice (some ⟨g, 0, none⟩) (n + 1) c') (n + 1) (vs.take i ++ u :: vs.drop i)) ⦃x : Value⦄ (q : w'.cell? ⟨pb, 1, none⟩ = some x) : RowG pb u w (w'.setCell ⟨pb, 1, none⟩ (.slice (some ⟨g, 0, none⟩) (n + 1) c')) := by
  intro b hb
  rw [rowB_of (World.cell?_setCell_same _ _ _ q) (ownsRow_setCell_below r1 (a := ⟨pb, 1, none⟩) hlt _)] at hb
  obtain ⟨v, hv, e1⟩ := hb
  rcases List.mem_append.1 hv with hv | hv
  · exact .inl ((rowB_of h1 h2).2 ⟨v, List.mem_of_mem_take hv, e1⟩)
  · rcases List.mem_cons.1 hv with rfl | hv
    · exact .inr e1
    · exact .inl ((rowB_of h1 h2).2 ⟨v, List.mem_of_mem_drop hv, e1⟩)
theorem rowN_of {w w1 w' : World} {lo pb ar n : Nat} {rs : List (List ByteArray)} {v : Value} {xs : List Value} {e : TypeId} (H : RowsV w lo pb ar rs) (he : Ext w w1) (ho : w1.ownsRow w.heap.size e 1 v n xs) (h : RowG pb v w1 w') : RowN pb w w' := fun b hb => by
  rcases h b hb with q | q
  · refine .inl ?_
    obtain ⟨a, c, vs, r1, r2, _⟩ := H.row
    exact (rowB_of r1 r2).2 ((rowB_of (keep he r1) (up_ext r2 he)).1 q)
  · exact .inr (ho.lt b q).1
set_option maxRecDepth 100000 in
set_option maxHeartbeats 4000000 in
theorem c_addS2 (lo pb ar : Nat) (rs : List (List ByteArray)) (t : List ByteArray) (a : Option Addr) (c : Nat) (w : World) (h : RowsV w lo pb ar rs) (hr : Rising rs) (hu : w.ownsRow lo 9 1 (.slice a t.length c) t.length (t.map Value.string)) (hn : rs.length ≤ 65536) (hlo : lo ≤ w.heap.size) :
    Calls Tryz.prog 57 #[.pointer (some ⟨pb, 0, none⟩), .slice a t.length c] w fun e w' => AddPost lo pb ar rs t w e w' ∧ RowG pb (.slice a t.length c) w w' := by
  obtain ⟨ai, ci, h1, hit⟩ := h.items (by unfold maxLen; omega)
  obtain ⟨a0, c0, vs, h1', h2, h3⟩ := h.row
  rw [h1] at h1'
  cases h1'
  have FIND := Lib.hid (c_find rs t pb ai rs.length ci a t.length c w h.c0 h1 hit (own_strs hu (own_len hu).1) (hr.cut t) (by omega))
  have hlow := (low_spec hr t).1
  have h1v : ∀ v ∈ vs, v.oneCell' = true := fun v hv => by
    obtain ⟨k, hk⟩ := List.mem_iff_getElem?.1 hv
    have hlen : vs.length = rs.length := by have := h2.1; omega
    have hkl := (List.getElem?_eq_some_iff.1 hk).1
    obtain ⟨r, hrr⟩ : ∃ r, rs[k]? = some r := ⟨_, List.getElem?_eq_getElem (by omega)⟩
    obtain ⟨_, _, e, _⟩ := own_form (h3 k r v hrr hk)
    rw [e]
    rfl
  have H := Lib.hid h
  have H2 := Lib.hid h2
  have H3 := Lib.hid h3
  have HU := Lib.hid hu
  have HV := Lib.hid h1v
  have HLOW := Lib.hid hlow
  have HLO := Lib.hid hlo
  clear hit hr hu h1v hlo h2 h3
  obtain ⟨f, hf⟩ : ∃ f, foundB rs t = f := ⟨_, rfl⟩
  have HF := Lib.hid hf
  rw [hf] at FIND
  obtain ⟨i, hi⟩ : ∃ i, lowB rs t = i := ⟨_, rfl⟩
  have HI := Lib.hid hi
  rw [hi] at FIND hlow
  clear hf hi
  have hpw : pb < w.heap.size := World.block_lt_of_cell? w ⟨pb, 1, none⟩ h1
  cases f with
  | true =>
    clear h h1
    go_enter Tryz.func57, Tryz.ntmps57
    go_wp2_with (go_at_call 61; (with_reducible refine FIND.out.mono ?_); rintro e w1 ⟨rfl, hw1⟩; obtain rfl := hw1.symm)
    go_returns
    exact ⟨⟨by rw [HF.out]; rfl, by unfold putRow; rw [if_pos HF.out]; exact H.out, ButS.refl _ _, AddF.refl _ _⟩, fun b hb => .inl hb⟩
  | false =>
    have hgv : (w.alloc (.cells #[.slice a t.length c] 46)).heap[w.heap.size]? = some (.cells #[.slice a t.length c] 46 (0, 0)) := heap_alloc_new w _
    have INS := Lib.hid (c_insert vs (.slice a t.length c) ai rs.length ci i w.heap.size lo (w.alloc (.cells #[.slice a t.length c] 46)) (H2.out.alloc _) HV.out hlow hgv (fun b e => by have := (H2.out.lt b e).2; omega) rfl (by omega) (size_alloc_le HLO.out))
    have fr := h.free
    clear h hgv
    go_enter Tryz.func57, Tryz.ntmps57
    go_wp2_with (first
      | (go_at_call 61; (with_reducible refine FIND.out.mono ?_); rintro e w1 ⟨rfl, hw1⟩; obtain rfl := hw1.symm)
      | (go_at_call 74; (with_reducible refine INS.out.mono ?_); rintro e w1 ⟨g7, p7, rfl, r1, r2, r3⟩; rw [← HI.out] at r1; have qg := rowG_put H.out.lt h1 H2.out r1; obtain ⟨q1, q2, q3, q4, q5⟩ := H.out.put h1 H2.out H3.out HU.out (by rw [HF.out]; simp) HLOW.out r1 r2 r3; have qg2 := qg q1))
    go_returns
    exact ⟨⟨by rw [HF.out]; rfl, q3, q4, q5⟩, qg2⟩
set_option maxRecDepth 100000 in
theorem c_addR3 (lo pb ar : Nat) (rs : List (List ByteArray)) (t : List ByteArray) (a : Option Addr) (n c : Nat) (w : World) (h : RowsV w lo pb ar rs) (hr : Rising rs) (ht : StrsAt w a n t) (hnil : a = none → n = 0 ∧ c = 0) (hn1 : n ≤ 8796093022207) (hn : rs.length ≤ 65536) (hlo : lo ≤ w.heap.size) :
    Calls Tryz.prog 30 #[.pointer (some ⟨pb, 0, none⟩), .slice a n c] w fun e w' => AddR2 lo pb ar rs t w e w' ∧ RowN pb w w' := by
  have H := Lib.hid h
  have HT := Lib.hid ht
  have HN := Lib.hid hnil
  have HR := Lib.hid hr
  have HL := Lib.hid hlo
  have c2 := h.c2
  have hlen : t.length = n := ht.2.1
  have HC : Hid ((w.cell? ⟨pb, 1, none⟩).isSome = true) := by
    obtain ⟨_, _, _, h1, _⟩ := h.row
    show _ = _
    rw [h1]
    rfl
  have HAS := Lib.hid (c_hasR lo pb ar rs t a n c w h hr (by omega) ht)
  have HLEN := Lib.hid hlen
  clear h ht hnil hr hlo hlen
  by_cases hne : n = ar
  · subst hne
    obtain ⟨b, hb⟩ : ∃ b, mayRow t = b := ⟨_, rfl⟩
    have HB := Lib.hid hb
    have hnn : ((n : Int) != (n : Int)) = false := by simp
    cases b with
    | false =>
      have HQ : Hid (addErr n rs t = 31) := by show _ = _; unfold addErr; rw [hb, if_neg (by simp [HLEN.out]), if_pos rfl]
      clear hb HAS
      go_enter Tryz.func30, Tryz.ntmps30
      go_wp2_with (go_at_call 44; (with_reducible refine (c_tTexts t _ _ _ _ HT.out).mono ?_); rw [HB.out]; rintro e w1 ⟨rfl, hw1⟩; obtain rfl := hw1.symm)
      go_ret2
      exact ⟨⟨by rw [HQ.out]; rfl, by unfold addTo; rw [HQ.out]; exact H.out, AddF.refl _ _⟩, fun b hb => .inl hb⟩
    | true =>
      obtain ⟨f, hf⟩ : ∃ f, foundB rs t = f := ⟨_, rfl⟩
      have HF := Lib.hid hf
      rw [hf] at HAS
      have CL := Lib.hid (c_cloneS t a n c w HT.out (by omega) HN.out)
      have AD : Hid (∀ a' c' w1, w1.ownsRow w.heap.size 9 1 (.slice a' n c') n (t.map Value.string) → Ext w w1 → Calls Tryz.prog 57 #[.pointer (some ⟨pb, 0, none⟩), .slice a' n c'] w1 (fun e w' => AddPost lo pb n rs t w1 e w' ∧ RowN pb w w')) := by
        intro a' c' w1 ho he
        have := HLEN.out
        subst this
        exact (c_addS2 lo pb _ rs t a' c' w1 (H.out.ext he) HR.out (own_base ho HL.out) hn (Nat.le_trans HL.out he.size)).mono fun e w' q => ⟨q.1, rowN_of H.out he ho q.2⟩
      by_cases hfull : 65536 ≤ rs.length
      · have hge : decide ((65536 : Int) ≤ (rs.length : Int)) = true := decide_eq_true (by omega)
        cases f with
        | false =>
          have HQ : Hid (addErr n rs t = 4) := by show _ = _; unfold addErr; rw [hb, hf, if_neg (by simp [HLEN.out]), if_neg (by simp), if_pos ⟨hfull, rfl⟩]
          clear hb hf hn
          go_enter Tryz.func30, Tryz.ntmps30
          go_wp2_with (first
            | (go_at_call 44; (with_reducible refine (c_tTexts t _ _ _ _ HT.out).mono ?_); rw [HB.out]; rintro e w1 ⟨rfl, hw1⟩; obtain rfl := hw1.symm)
            | (go_at_call 56; (with_reducible refine (c_lenR lo pb n rs _ H.out).mono ?_); rintro e w1 ⟨rfl, hw1⟩; obtain rfl := hw1.symm)
            | (go_at_call 13; (with_reducible refine HAS.out.mono ?_); rintro e w1 ⟨rfl, hw1⟩; obtain rfl := hw1.symm))
          go_ret2
          exact ⟨⟨by rw [HQ.out]; rfl, by unfold addTo; rw [HQ.out]; exact H.out, AddF.refl _ _⟩, fun b hb => .inl hb⟩
        | true =>
          have HQ : Hid (addErr n rs t = 0) := by show _ = _; unfold addErr; rw [hb, hf, if_neg (by simp [HLEN.out]), if_neg (by simp), if_neg (by simp)]
          clear hb hf hn
          go_enter Tryz.func30, Tryz.ntmps30
          go_wp2_with (first
            | (go_at_call 44; (with_reducible refine (c_tTexts t _ _ _ _ HT.out).mono ?_); rw [HB.out]; rintro e w1 ⟨rfl, hw1⟩; obtain rfl := hw1.symm)
            | (go_at_call 56; (with_reducible refine (c_lenR lo pb n rs _ H.out).mono ?_); rintro e w1 ⟨rfl, hw1⟩; obtain rfl := hw1.symm)
            | (go_at_call 13; (with_reducible refine HAS.out.mono ?_); rintro e w1 ⟨rfl, hw1⟩; obtain rfl := hw1.symm)
            | (go_at_call 33; (with_reducible refine (c_set lo pb n rs _ H.out).mono ?_); rintro e w1 ⟨rfl, hw1⟩; obtain rfl := hw1.symm)
            | (go_at_call 58; (with_reducible refine CL.out.mono ?_); rintro e w7 ⟨a7, c7, rfl, r7, _, e7⟩)
            | (go_at_call 57; (with_reducible refine (AD.out _ _ _ r7 e7).mono ?_); rintro e w8 ⟨⟨rfl, q8, b8, f8⟩, g8⟩))
          go_ret2
          exact ⟨⟨by rw [HQ.out]; rfl, by unfold addTo; rw [HQ.out]; exact q8, f8.after e7 HC.out⟩, g8⟩
      · have hge : decide ((65536 : Int) ≤ (rs.length : Int)) = false := decide_eq_false (by omega)
        have HQ : Hid (addErr n rs t = 0) := by show _ = _; unfold addErr; rw [hb, if_neg (by simp [HLEN.out]), if_neg (by simp), if_neg (fun h => hfull h.1)]
        clear hb hf hn HAS hfull
        go_enter Tryz.func30, Tryz.ntmps30
        go_wp2_with (first
          | (go_at_call 44; (with_reducible refine (c_tTexts t _ _ _ _ HT.out).mono ?_); rw [HB.out]; rintro e w1 ⟨rfl, hw1⟩; obtain rfl := hw1.symm)
          | (go_at_call 56; (with_reducible refine (c_lenR lo pb n rs _ H.out).mono ?_); rintro e w1 ⟨rfl, hw1⟩; obtain rfl := hw1.symm)
          | (go_at_call 33; (with_reducible refine (c_set lo pb n rs _ H.out).mono ?_); rintro e w1 ⟨rfl, hw1⟩; obtain rfl := hw1.symm)
          | (go_at_call 58; (with_reducible refine CL.out.mono ?_); rintro e w7 ⟨a7, c7, rfl, r7, _, e7⟩)
          | (go_at_call 57; (with_reducible refine (AD.out _ _ _ r7 e7).mono ?_); rintro e w8 ⟨⟨rfl, q8, b8, f8⟩, g8⟩))
        go_ret2
        exact ⟨⟨by rw [HQ.out]; rfl, by unfold addTo; rw [HQ.out]; exact q8, f8.after e7 HC.out⟩, g8⟩
  · have hne2 : ¬ ((n : Int) = (ar : Int)) := by omega
    have HQ : Hid (addErr ar rs t = 30) := by show _ = _; unfold addErr; rw [if_pos (by rw [HLEN.out]; exact hne)]
    clear HAS
    go_enter Tryz.func30, Tryz.ntmps30
    go_wp2
    go_ret2
    exact ⟨⟨by rw [HQ.out]; rfl, by unfold addTo; rw [HQ.out]; exact H.out, AddF.refl _ _⟩, fun b hb => .inl hb⟩
end Go.Proofs.YtpgbenijjodoeaaGreat
namespace Go.Proofs.YtpgbenijjodoeaaGreat
open Go.ChangeShapes Go.WideShapes Go.ChangeAt Go.RowKit
open K (Term Atom Rule TermsAt LitsAt RuleV termAt litAt)
theorem RowsV.but3 {w w' : World} {lo pb ar : Nat} {rs : List (List ByteArray)} {S : Nat → Prop} (h : RowsV w lo pb ar rs) (e : ButS S w w') (h1 : ¬ S pb) (h2 : ∀ g, itemB w pb = some g → ¬ S g) (h3 : ∀ b, RowB w pb b → ¬ S b) : RowsV w' lo pb ar rs ∧ itemB w' pb = itemB w pb := by
  obtain ⟨a, c, vs, r1, r2, r3⟩ := h.row
  have ib := item_own r1
  have r1' := e.cell h1 r1
  exact ⟨⟨h.lt, e.cell h1 h.c0, e.cell h1 h.c2, frozen_but e h1 (World.block_lt_of_cell? w ⟨pb, 1, none⟩ r1) h.free, a, c, vs, r1', e.own r2 (fun b hb => h2 b (ib.trans hb)), fun i r v hr hv => e.own (r3 i r v hr hv) (fun b hb hS => h3 b ((rowB_of r1 r2).2 ⟨v, List.mem_of_getElem? hv, hb⟩) hS)⟩, by rw [item_own r1', ib]⟩
theorem RowsV.rowB_ty {w : World} {lo pb ar b : Nat} {rs : List (List ByteArray)} (h : RowsV w lo pb ar rs) (hb : RowB w pb b) : Ty w b 9 ∧ lo ≤ b := by
  obtain ⟨a, c, vs, h1, h2, h3⟩ := h.row
  obtain ⟨v, hv, q⟩ := (rowB_of h1 h2).1 hb
  obtain ⟨i, hi⟩ := List.mem_iff_getElem?.1 hv
  have hil := (List.getElem?_eq_some_iff.1 hi).1
  have hl : vs.length = rs.length := by have := h2.1; omega
  have := h3 i _ v (List.getElem?_eq_getElem (by omega)) hi
  exact ⟨own_ty this q, (this.lt b q).1⟩
/-- The rows so far. -/
structure FacJ (w0 wL : World) (T0 K : Nat → Prop) (pr ar : Nat) (C : Nat → Prop) (rows : List (List ByteArray)) (W : World) : Prop where
  ext : Ext w0 W
  sub : ∀ b, T0 b → C b
  same : ∀ b, K b → W.heap[b]? = wL.heap[b]?
  rows : RowsV W (pr + 1) pr ar rows
  item : ∀ g, itemB W pr = some g → C g
  blk : ∀ b, RowB W pr b → C b
/-- What is asked of the blocks that stand and of the rows' own. -/
structure FacK (w0 wL : World) (T0 K : Nat → Prop) (pr l : Nat) : Prop where
  k : ∀ b, K b → T0 b ∧ b < wL.heap.size ∧ b ≠ pr ∧ b ≠ l ∧ ¬ Ty wL b 46 ∧ ¬ Ty wL b 9 ∧ w0.heap.size ≤ b
  low : ∀ b, b < w0.heap.size → T0 b
  prt : T0 pr
  prw : w0.heap.size ≤ pr
  lw : w0.heap.size ≤ l
  tl : T0 l
section
variable {w0 wL W W' : World} {T0 K C : Nat → Prop} {pr ar l : Nat} {rows : List (List ByteArray)}
theorem FacJ.kbl (S : FacK w0 wL T0 K pr l) (h : FacJ w0 wL T0 K pr ar C rows W) {b : Nat} (hb : K b) : b < W.heap.size := by
  have h1 := h.same b hb
  have h2 := (S.k b hb).2.1
  rw [Array.getElem?_eq_getElem h2] at h1
  exact (Array.getElem?_eq_some_iff.1 h1).1
theorem FacJ.but (S : FacK w0 wL T0 K pr l) (h : FacJ w0 wL T0 K pr ar C rows W) {T : Nat → Prop} (e : ButS T W W') (hT : ∀ b, T b → ¬ C b) : FacJ w0 wL T0 K pr ar C rows W' := by
  have n1 : ¬ T pr := fun q => hT _ q (h.sub _ S.prt)
  have n2 : ∀ g, itemB W pr = some g → ¬ T g := fun g hg q => hT _ q (h.item g hg)
  obtain ⟨r1, r2⟩ := h.rows.but3 e n1 n2 (fun b hb q => hT _ q (h.blk b hb))
  refine ⟨ext_of_but h.ext e (fun b hb q => hT _ q (h.sub _ (S.low b hb))), h.sub, fun b hb => (e.block b (h.kbl S hb) (fun q => hT _ q (h.sub _ (S.k b hb).1))).trans (h.same b hb), r1, fun g hg => h.item g (r2 ▸ hg), fun b hb => h.blk b ((RowB.but h.rows e n1 n2).1 hb)⟩
theorem FacJ.up (S : FacK w0 wL T0 K pr l) (h : FacJ w0 wL T0 K pr ar C rows W) (e : Ext W W') : FacJ w0 wL T0 K pr ar C rows W' := h.but S (ext_but e) (fun _ q => q.elim)
/-- The loop's record turns. -/
theorem FacJ.turn (S : FacK w0 wL T0 K pr l) (h : FacJ w0 wL T0 K pr ar C rows W) (o : Obj) {o1 : Obj} (hl : W.heap[l]? = some o1) (ho : o1.isCells = false) (hlp : l ≠ pr) : FacJ w0 wL T0 K pr ar C rows (W.putObj l o) := by
  have e : ButS (fun b => b = l) W (W.putObj l o) := ButS.putObj W o rfl
  have n2 : ∀ g, itemB W pr = some g → ¬ g = l := fun g hg q => by subst q; exact noTy hl ho (h.rows.item_ty hg).1
  obtain ⟨r1, r2⟩ := h.rows.but3 e (fun q => hlp q.symm) n2 (fun b hb q => by subst q; exact noTy hl ho (h.rows.rowB_ty hb).1)
  exact ⟨ext_of_but h.ext e (fun b hb q => by have := S.lw; omega), h.sub, fun b hb => (e.block b (h.kbl S hb) (S.k b hb).2.2.2.1).trans (h.same b hb), r1, fun g hg => h.item g (r2 ▸ hg), fun b hb => h.blk b ((RowB.but h.rows e (fun q => hlp q.symm) n2).1 hb)⟩
/-- A change of the blocks that stand. -/
theorem FacJ.butK (S : FacK w0 wL T0 K pr l) (h : FacJ w0 wL T0 K pr ar C rows W) (e : ButS K W W') : Ext w0 W' ∧ RowsV W' (pr + 1) pr ar rows := by
  refine ⟨ext_of_but h.ext e (fun b hb q => by have := (S.k b q).2.2.2.2.2.2; omega), (h.rows.but3 e (fun q => (S.k _ q).2.2.1 rfl) (fun g hg q => ?_) (fun b hb q => ?_)).1⟩
  · obtain ⟨cs, x, t⟩ := (h.rows.item_ty hg).1
    exact (S.k g q).2.2.2.2.1 ⟨cs, x, (h.same g q).symm.trans t⟩
  · obtain ⟨cs, x, t⟩ := (h.rows.rowB_ty hb).1
    exact (S.k b q).2.2.2.2.2.1 ⟨cs, x, (h.same b q).symm.trans t⟩
/-- One row more. -/
theorem FacJ.add (S : FacK w0 wL T0 K pr l) (h : FacJ w0 wL T0 K pr ar C rows W) {rows' : List (List ByteArray)} (q1 : RowsV W' (pr + 1) pr ar rows') (q2 : AddF pr W W') (q3 : RowN pr W W') : FacJ w0 wL T0 K pr ar (fun b => C b ∨ (W.heap.size ≤ b ∧ b < W'.heap.size)) rows' W' := by
  have nk : ∀ b, K b → ¬ (b = pr ∨ itemB W pr = some b) := fun b hb q => by
    rcases q with rfl | q
    · exact (S.k b hb).2.2.1 rfl
    · obtain ⟨cs, x, t⟩ := (h.rows.item_ty q).1
      exact (S.k b hb).2.2.2.2.1 ⟨cs, x, (h.same b hb).symm.trans t⟩
  refine ⟨ext_of_but h.ext q2.but (fun b hb q => ?_), fun b hb => .inl (h.sub b hb), fun b hb => (q2.but.block b (h.kbl S hb) (nk b hb)).trans (h.same b hb), q1, fun g hg => ?_, fun b hb => ?_⟩
  · have := S.prw
    rcases q with rfl | q
    · omega
    · have := (h.rows.item_ty q).2; omega
  · rcases q2.itm with q | ⟨g', q, hg'⟩
    · exact .inl (h.item g (q ▸ hg))
    · rw [q] at hg
      cases hg
      exact .inr ⟨hg', (q1.item_ty q).1.lt⟩
  · rcases q3 b hb with q | q
    · exact .inl (h.blk b q)
    · exact .inr ⟨q, (q1.rowB_ty hb).1.lt⟩
/-- What an Add changes lies in C. -/
theorem FacJ.inC (S : FacK w0 wL T0 K pr l) (h : FacJ w0 wL T0 K pr ar C rows W) (q2 : AddF pr W W') : ButS C W W' := q2.but.mono fun b _ q => by
  rcases q with rfl | q
  · exact h.sub _ S.prt
  · exact h.item b q
theorem cell_none {W : World} {l k : Nat} {o : Obj} (h : W.heap[l]? = some o) (ho : o.isCells = false) : W.cell? ⟨l, k, none⟩ = none := by
  cases o <;> first | (simp [World.cell?, h]; done) | cases ho
theorem StrsAt.turn {a : Option Addr} {n : Nat} {x : List ByteArray} (h : StrsAt W a n x) {o1 : Obj} (hl : W.heap[l]? = some o1) (ho : o1.isCells = false) (o : Obj) : StrsAt (W.putObj l o) a n x := ⟨h.1, h.2.keep fun b k y hy => (ButS.putObj (S := fun b => b = l) W o rfl).cell (fun q => by
  subst q
  have h1 : W.cell? ⟨b, k, none⟩ = some (.string y) := hy
  rw [cell_none hl ho] at h1
  cases h1) hy⟩
theorem put_heap (W : World) {l : Nat} (o : Obj) (h : l < W.heap.size) : (W.putObj l o).heap[l]? = some o := by
  simp [World.putObj, h]
/-- One round that goes on. -/
theorem fac_next {rc : LoopState → Option Code → Loop} (S : FacK w0 wL T0 K pr l) (hlp : l ≠ pr) (h : FacJ w0 wL T0 K pr ar C rows W) (hl : W.heap[l]? = some (.loop (rc .ready none))) (hC : ∀ b, C b → b < W.heap.size) {w2 w9 : World} (e2 : Ext (W.putObj l (.loop (rc .busy none))) w2) {rows' : List (List ByteArray)} (q1 : RowsV w9 (pr + 1) pr ar rows') (q2 : AddF pr w2 w9) (q3 : RowN pr w2 w9) :
    w9.heap[l]? = some (.loop (rc .busy none)) ∧ FacJ w0 wL T0 K pr ar (fun b => C b ∨ (w2.heap.size ≤ b ∧ b < w9.heap.size)) rows' w9 ∧ ButS C W w9 ∧ (∀ b, C b ∨ (w2.heap.size ≤ b ∧ b < w9.heap.size) → C b ∨ W.heap.size ≤ b) ∧ ∀ b, C b ∨ (w2.heap.size ≤ b ∧ b < w9.heap.size) → b < w9.heap.size := by
  have hlw := (Array.getElem?_eq_some_iff.1 hl).1
  have FB := h.turn S (.loop (rc .busy none)) hl rfl hlp
  have hlB := put_heap W (.loop (rc .busy none)) hlw
  have hlBw := (Array.getElem?_eq_some_iff.1 hlB).1
  have F2 := FB.up S e2
  have hl2 := (e2.block l hlBw).trans hlB
  have hl2w := (Array.getElem?_eq_some_iff.1 hl2).1
  have hl9 := (q2.but.block l hl2w (fun q => by
    rcases q with q | q
    · exact hlp q
    · exact noTy hl2 rfl (F2.rows.item_ty q).1)).trans hl2
  have hs : W.heap.size ≤ w2.heap.size := Nat.le_trans (ButS.putObj (S := fun b => b = l) W (.loop (rc .busy none)) rfl).size e2.size
  have B := ((ButS.putObj (S := C) W (.loop (rc .busy none)) (h.sub _ S.tl)).ext e2).trans (F2.inC S q2)
  refine ⟨hl9, F2.add S q1 q2 q3, B, fun b hb => ?_, fun b hb => ?_⟩
  · rcases hb with hb | hb
    · exact .inl hb
    · exact .inr (Nat.le_trans hs hb.1)
  · rcases hb with hb | hb
    · exact Nat.lt_of_lt_of_le (hC b hb) B.size
    · exact hb.2
/-- The round's end: the record is ready again. -/
theorem fac_ready {rc : LoopState → Option Code → Loop} (S : FacK w0 wL T0 K pr l) (hlp : l ≠ pr) {w9 : World} {C' : Nat → Prop} (hl9 : w9.heap[l]? = some (.loop (rc .busy none))) (F9 : FacJ w0 wL T0 K pr ar C' rows w9) (B : ButS C W w9) (hCl : C l) (h1 : ∀ b, C' b → C b ∨ W.heap.size ≤ b) (h2 : ∀ b, C' b → b < w9.heap.size) (o : Loop) :
    FacJ w0 wL T0 K pr ar C' rows (w9.putObj l (.loop o)) ∧ (w9.putObj l (.loop o)).heap[l]? = some (.loop o) ∧ ButS C W (w9.putObj l (.loop o)) ∧ (∀ b, C' b → C b ∨ W.heap.size ≤ b) ∧ ∀ b, C' b → b < (w9.putObj l (.loop o)).heap.size := by
  have hlw := (Array.getElem?_eq_some_iff.1 hl9).1
  have E := ButS.putObj (S := C) w9 (.loop o) hCl
  exact ⟨F9.turn S _ hl9 rfl hlp, put_heap _ _ hlw, B.trans E, h1, fun b hb => Nat.lt_of_lt_of_le (h2 b hb) E.size⟩
/-- A failure's end. -/
structure FacX (w0 : World) (T0 : Nat → Prop) (p4 p5 D l : Nat) (o : Loop) (C : Nat → Prop) (W : World) : Prop where
  ext : Ext w0 W
  sub : ∀ b, T0 b → C b
  dfr : W.heap[D]? = some (.deferred (some []))
  rc : W.heap[l]? = some (.loop o)
  c4 : W.cell? ⟨p4, 0, none⟩ = some (.pointer none)
  c5 : W.cell? ⟨p5, 0, none⟩ = some (.int .i64 4)
theorem FacX.but {p4 p5 D : Nat} {o : Loop} (h : FacX w0 T0 p4 p5 D l o C W) (hlow : ∀ b, b < w0.heap.size → T0 b) (hT0 : T0 p4 ∧ T0 p5 ∧ T0 D ∧ T0 l) {T : Nat → Prop} (e : ButS T W W') (hT : ∀ b, T b → ¬ C b) : FacX w0 T0 p4 p5 D l o C W' :=
  have n : ∀ b, T0 b → ¬ T b := fun b hb q => hT b q (h.sub b hb)
  ⟨ext_of_but h.ext e (fun b hb => n b (hlow b hb)), h.sub, (e.block D (Array.getElem?_eq_some_iff.1 h.dfr).1 (n _ hT0.2.2.1)).trans h.dfr, (e.block l (Array.getElem?_eq_some_iff.1 h.rc).1 (n _ hT0.2.2.2)).trans h.rc, e.cell (n _ hT0.1) h.c4, e.cell (n _ hT0.2.1) h.c5⟩
theorem cell_at {W : World} {b : Nat} {v : Value} {t : TypeId} (h : W.heap[b]? = some (.cells #[v] t (0, 0))) : W.cell? ⟨b, 0, none⟩ = some v ∧ W.frozen? ⟨b, 0, none⟩ = false := by
  constructor
  · simp [World.cell?, h]
  · simp [World.frozen?, h]
theorem fac_fail (S : FacK w0 wL T0 K pr l) {w9 : World} {p4 p5 D : Nat} {t4 t5 : TypeId} (k4 : K p4) (k5 : K p5) (kD : K D) (h45 : p4 ≠ p5) (hl4 : w0.heap.size ≤ p4) (hl5 : w0.heap.size ≤ p5) (hD4 : D ≠ p4) (hD5 : D ≠ p5) (b4 : wL.heap[p4]? = some (.cells #[.pointer none] t4 (0, 0))) (b5 : wL.heap[p5]? = some (.cells #[.int .i64 0] t5 (0, 0))) (bD : wL.heap[D]? = some (.deferred (some []))) {C' : Nat → Prop} {o1 : Loop}
    (hl9 : w9.heap[l]? = some (.loop o1)) (F9 : FacJ w0 wL T0 K pr ar C' rows w9) (B : ButS C W w9) (hC0 : ∀ b, T0 b → C b) (hC : ∀ b, C b → b < W.heap.size) :
    w9.cell? ⟨p4, 0, none⟩ = some (.pointer none) ∧ w9.frozen? ⟨p4, 0, none⟩ = false ∧ w9.cell? ⟨p5, 0, none⟩ = some (.int .i64 0) ∧ w9.frozen? ⟨p5, 0, none⟩ = false ∧ ∀ w', w' = (w9.setCell ⟨p4, 0, none⟩ (.pointer none)).setCell ⟨p5, 0, none⟩ (.int .i64 4) → w'.heap[l]? = some (.loop o1) ∧ ∀ o : Loop, FacX w0 T0 p4 p5 D l o C (w'.putObj l (.loop o)) ∧ ButS C W (w'.putObj l (.loop o)) ∧ ∀ b, C b → b < (w'.putObj l (.loop o)).heap.size := by
  have h4 := (F9.same _ k4).trans b4
  have h5 := (F9.same _ k5).trans b5
  have hD := (F9.same _ kD).trans bD
  have l4 := (S.k _ k4).2.2.2.1
  have l5 := (S.k _ k5).2.2.2.1
  have lD := (S.k _ kD).2.2.2.1
  refine ⟨(cell_at h4).1, (cell_at h4).2, (cell_at h5).1, (cell_at h5).2, ?_⟩
  rintro w' rfl
  have BS : ButS (fun b => b = p4 ∨ b = p5) w9 ((w9.setCell ⟨p4, 0, none⟩ (.pointer none)).setCell ⟨p5, 0, none⟩ (.int .i64 4)) := ((ButS.refl (fun b => b = p4 ∨ b = p5) w9).set (.inl (.inl rfl)) _ _).set (.inl (.inr rfl)) _ _
  have c4 : ((w9.setCell ⟨p4, 0, none⟩ (.pointer none)).setCell ⟨p5, 0, none⟩ (.int .i64 4)).cell? ⟨p4, 0, none⟩ = some (.pointer none) := by
    rw [World.cell?_setCell_other _ _ _ _ (by intro e; injection e with e; exact h45 e.symm)]
    exact World.cell?_setCell_same _ _ _ (cell_at h4).1
  have c5 : ((w9.setCell ⟨p4, 0, none⟩ (.pointer none)).setCell ⟨p5, 0, none⟩ (.int .i64 4)).cell? ⟨p5, 0, none⟩ = some (.int .i64 4) := World.cell?_setCell_same _ _ _ ((World.cell?_setCell_other _ _ _ _ (by intro e; injection e with e; exact h45 e)).trans (cell_at h5).1)
  generalize (w9.setCell ⟨p4, 0, none⟩ (.pointer none)).setCell ⟨p5, 0, none⟩ (.int .i64 4) = w' at BS c4 c5 ⊢
  have hlw := (Array.getElem?_eq_some_iff.1 hl9).1
  have hDw := (Array.getElem?_eq_some_iff.1 hD).1
  have hl' := (BS.block l hlw (fun q => by rcases q with q | q; exact l4 q.symm; exact l5 q.symm)).trans hl9
  have hD' := (BS.block D hDw (fun q => by rcases q with q | q; exact hD4 q; exact hD5 q)).trans hD
  refine ⟨hl', fun o => ?_⟩
  have E := ButS.putObj (S := fun b => b = l) w' (.loop o) rfl
  have EC := ButS.putObj (S := C) w' (.loop o) (hC0 _ S.tl)
  have hl'w := (Array.getElem?_eq_some_iff.1 hl').1
  have hD'w := (Array.getElem?_eq_some_iff.1 hD').1
  have BC := B.trans (BS.mono fun b _ q => by
    rcases q with rfl | rfl
    · exact hC0 _ (S.k _ k4).1
    · exact hC0 _ (S.k _ k5).1)
  refine ⟨⟨ext_of_but (ext_of_but F9.ext BS (fun b hb q => by omega)) E (fun b hb q => by have := S.lw; omega), hC0, (E.block D hD'w lD).trans hD', put_heap _ _ hl'w, E.cell l4 c4, E.cell l5 c5⟩, BC.trans EC, fun b hb => Nat.lt_of_lt_of_le (hC b hb) (BC.trans EC).size⟩
end
end Go.Proofs.YtpgbenijjodoeaaGreat
