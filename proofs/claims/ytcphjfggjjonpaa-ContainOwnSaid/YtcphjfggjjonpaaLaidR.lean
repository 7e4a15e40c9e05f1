/- The walks of the document's Laid, Within and Same. -/
import Derived.Test.YtcphjfggjjonpaaSearch
import Derived.Test.YtcphjfggjjonpaaSame
namespace Go.Proofs.Ytcphjfggjjonpaa
open Go.ChangeShapes Go.WideShapes Go.ChangeAt Go.RowKit
theorem mayTerms_len {a : Atom} {h : Bool} (e : mayAtom a h = 0) : a.terms.length ≤ 64 := by
  unfold mayAtom at e
  by_cases h1 : mayWord a.pred 1 ≠ 0
  · rw [if_pos h1] at e
    exact absurd e h1
  · rw [if_neg h1] at e
    by_cases h2 : 64 < a.terms.length
    · rw [if_pos h2] at e
      cases e
    · omega
theorem mayLits_mem {ls : List Lit} (e : mayLits ls = 0) : ∀ l ∈ ls, mayLit l = 0 := by
  induction ls with
  | nil => intro l h; cases h
  | cons x ls ih =>
    rw [mayLits] at e
    by_cases h1 : mayLit x ≠ 0
    · rw [if_pos h1] at e
      exact absurd e h1
    · rw [if_neg h1] at e
      intro l h
      rcases List.mem_cons.1 h with rfl | h
      · exact Classical.not_not.1 h1
      · exact ih e l h
/-- The bounds of a plain rule. -/
theorem plain_len {r : Rule} (h : plain r = true) : r.head.terms.length ≤ 64 ∧ r.body.length ≤ 64 ∧ ∀ l ∈ r.body, l.atom.terms.length ≤ 64 := by
  unfold plain at h
  rw [Bool.and_eq_true, Bool.and_eq_true] at h
  obtain ⟨h1, h2, _⟩ := h
  have h1 : mayRule r = 0 := by simpa using h1
  unfold mayRule at h1
  by_cases e1 : mayAtom r.head true ≠ 0
  · rw [if_pos e1] at h1
    exact absurd h1 e1
  · rw [if_neg e1] at h1
    have e1 := Classical.not_not.1 e1
    by_cases e2 : 64 < r.body.length
    · rw [if_pos e2] at h1
      cases h1
    · rw [if_neg e2] at h1
      refine ⟨mayTerms_len e1, by omega, fun l hl => ?_⟩
      have hk : l.kind = 1 := by simpa using List.all_eq_true.1 h2 l hl
      have hm := mayLits_mem h1 l hl
      unfold mayLit at hm
      by_cases e3 : (l.kind = 1 ∨ l.kind = 2) ∧ (l.op = 0 ∧ l.left = noTerm ∧ l.right = noTerm)
      · rw [if_pos e3] at hm
        exact mayTerms_len hm
      · rw [if_neg e3] at hm
        by_cases e4 : l.kind ≠ 3 ∨ ¬ (l.atom.pred = ⟨#[]⟩ ∧ l.atom.terms = []) ∨ l.op < 1 ∨ 4 < l.op
        · rw [if_pos e4] at hm
          cases hm
        · exact absurd (Or.inl (by omega)) e4
/-- What the program's Laid comes to, by the document's search. -/
theorem laid_dlaid (r s : Rule) : laid r s = if mayRule r ≠ 0 then (mayRule r, none)
  else if mayRule s ≠ 0 then (mayRule s, none)
  else if (plain r && plain s) = false then (240, none)
  else match lay (alT []) s.head r.head (-1) with
    | none => (0, none)
    | some (m, _) =>
      match srchR r.body s.body m [] 0 with
      | .many => (241, none)
      | .none _ => (0, none)
      | .found l => (0, some l) := by
  unfold laid
  have e : (alT [] : TMap) = fun _ => none := by funext v; rfl
  rw [e]
  by_cases h1 : mayRule r ≠ 0
  · rw [if_pos h1, if_pos h1]
  · rw [if_neg h1, if_neg h1]
    by_cases h2 : mayRule s ≠ 0
    · rw [if_pos h2, if_pos h2]
    · rw [if_neg h2, if_neg h2]
      by_cases h3 : (plain r && plain s) = false
      · rw [if_pos h3, if_pos h3]
      · rw [if_neg h3, if_neg h3]
        cases lay (fun _ => none) s.head r.head (-1) with
        | none => rfl
        | some p =>
          obtain ⟨m, fr⟩ := p
          simp only
          rw [srch_law]
          cases srchR r.body s.body m [] 0 <;> rfl
theorem ths_nil (w : World) : ThsAt w none 0 0 [] := ⟨rfl, ⟨Nat.le_refl _, fun _ => ⟨rfl, rfl⟩⟩, fun _ e => by cases e⟩
theorem nums_nil (w : World) : NumsAt w none 0 0 [] := ⟨rfl, ⟨Nat.le_refl _, fun _ => ⟨rfl, rfl⟩⟩, fun _ e => by cases e⟩
set_option maxRecDepth 100000 in
set_option maxHeartbeats 4000000 in
theorem c_dLaid (r s : Rule) (ah : Option Addr) (nh ch : Nat) (ab : Option Addr) (nb cb : Nat) (ah' : Option Addr) (nh' ch' : Nat) (ab' : Option Addr) (nb' cb' : Nat) (w : World) (hr : RuleV w r ah nh ch ab nb cb) (hs : RuleV w s ah' nh' ch' ab' nb' cb') :
    Calls Try.prog 18 #[.agg #[.string r.head.pred, .slice ah nh ch, .slice ab nb cb], .agg #[.string s.head.pred, .slice ah' nh' ch', .slice ab' nb' cb']] w
      fun e w' => ∃ a n cap, e = .returned (.tuple #[.slice a n cap, .bool (laid r s).2.isSome, .int .i64 (laid r s).1]) ∧ Ext w w' ∧ LaidOut r s w (.slice a n cap) w' := by
  have HR := Lib.hid hr
  have HS := Lib.hid hs
  clear hr hs
  have HL := Lib.hid (laid_dlaid r s)
  have bad : Hid (∀ (x : Int) {w' : World}, laid r s = (x, none) → Ext w w' → ∃ a n cap, Ending.returned (.tuple #[.slice none 0 0, .bool false, .int .i64 x]) = .returned (.tuple #[.slice a n cap, .bool (laid r s).2.isSome, .int .i64 (laid r s).1]) ∧ Ext w w' ∧ LaidOut r s w (.slice a n cap) w') := fun x w' e h => ⟨none, 0, 0, by rw [e]; rfl, h, ⟨_, _, _, rfl⟩, fun _ => rfl, fun l hl => by rw [e] at hl; cases hl⟩
  obtain ⟨m1, hm1⟩ : ∃ m, m = mayRule r := ⟨_, rfl⟩
  obtain ⟨m2, hm2⟩ : ∃ m, m = mayRule s := ⟨_, rfl⟩
  have c1 := fun w hr => c_dRule r ah nh ch ab nb cb w hr
  have c2 := fun w hs => c_dRule s ah' nh' ch' ab' nb' cb' w hs
  rw [← hm1] at c1
  rw [← hm2] at c2
  have C1 := Lib.hid c1
  have C2 := Lib.hid c2
  have M1 := Lib.hid hm1
  have M2 := Lib.hid hm2
  clear c1 c2 hm1 hm2
  obtain ⟨p1, hp1⟩ : ∃ m, m = plain r := ⟨_, rfl⟩
  obtain ⟨p2, hp2⟩ : ∃ m, m = plain s := ⟨_, rfl⟩
  have c1 := fun w hr => c_dPlain r ah nh ch ab nb cb w hr
  have c2 := fun w hs => c_dPlain s ah' nh' ch' ab' nb' cb' w hs
  rw [← hp1] at c1
  rw [← hp2] at c2
  have PC1 := Lib.hid c1
  have PC2 := Lib.hid c2
  have P1 := Lib.hid hp1
  have P2 := Lib.hid hp2
  clear c1 c2 hp1 hp2
  go_enter Try.func18, Try.ntmps18
  go_upto_region 1 with (fail)
  refine wp_gen (fun W hW => ?_)
  have hb0 : Ext w W := by rw [hW]; go_grown
  have x0 : W.cell? ⟨w.heap.size, 0, none⟩ = some (.string r.head.pred) := by rw [hW]; go_simp
  have x1 : W.cell? ⟨w.heap.size, 1, none⟩ = some (.slice ah nh ch) := by rw [hW]; go_simp
  have x2 : W.cell? ⟨w.heap.size, 2, none⟩ = some (.slice ab nb cb) := by rw [hW]; go_simp
  have y0 : W.cell? ⟨w.heap.size + 1, 0, none⟩ = some (.string s.head.pred) := by rw [hW]; go_simp
  have y1 : W.cell? ⟨w.heap.size + 1, 1, none⟩ = some (.slice ah' nh' ch') := by rw [hW]; go_simp
  have y2 : W.cell? ⟨w.heap.size + 1, 2, none⟩ = some (.slice ab' nb' cb') := by rw [hW]; go_simp
  clear hW
  go_upto_region 2 with (go_at_call 43; (with_reducible refine (C1.out _ (HR.out.keep hb0)).mono ?_); rintro e w1 ⟨rfl, h1⟩; have x0 := keep h1 x0; have x1 := keep h1 x1; have x2 := keep h1 x2; have y0 := keep h1 y0; have y1 := keep h1 y1; have y2 := keep h1 y2)
  have hb1 := ext_trans hb0 h1
  by_cases e1 : m1 = 0
  · have E1 : Hid (¬ mayRule r ≠ 0) := by show ¬ _; rw [← M1.out, e1]; simp
    subst e1
    go_upto_region 3 with (fail)
    go_upto_region 4 with (go_at_call 43; (with_reducible refine (C2.out _ (HS.out.keep hb1)).mono ?_); rintro e w2 ⟨rfl, h2⟩; have x0 := keep h2 x0; have x1 := keep h2 x1; have x2 := keep h2 x2; have y0 := keep h2 y0; have y1 := keep h2 y1; have y2 := keep h2 y2)
    have hb2 := ext_trans hb1 h2
    by_cases e2 : m2 = 0
    · have E2 : Hid (¬ mayRule s ≠ 0) := by show ¬ _; rw [← M2.out, e2]; simp
      subst e2
      have HB2 := Lib.hid hb2
      clear h1 h2 hb0 hb1
      go_upto_region 6 with (fail)
      have BAD3 : Hid ((plain r && plain s) = false → ∀ {w' : World}, Ext w w' → ∃ a n cap, Ending.returned (.tuple #[.slice none 0 0, .bool false, .int .i64 240]) = .returned (.tuple #[.slice a n cap, .bool (laid r s).2.isSome, .int .i64 (laid r s).1]) ∧ Ext w w' ∧ LaidOut r s w (.slice a n cap) w') := fun h w' hh => bad.out 240 (by rw [HL.out, if_neg E1.out, if_neg E2.out, if_pos h]) hh
      cases p1 with
      | false =>
        go_wp2_with (go_at_call 20; (with_reducible refine (PC1.out _ (HR.out.keep HB2.out)).mono ?_); rintro e w3 ⟨rfl, h3⟩)
        go_ret3
        exact BAD3.out (by rw [← P1.out]; rfl) (ext_trans HB2.out h3)
      | true =>
        cases p2 with
        | false =>
          go_wp2_with (first | (go_at_call 20; (with_reducible refine (PC1.out _ (HR.out.keep HB2.out)).mono ?_); rintro e w3 ⟨rfl, h3⟩; have y0 := keep h3 y0; have y1 := keep h3 y1; have y2 := keep h3 y2) | (go_at_call 20; (with_reducible refine (PC2.out _ (HS.out.keep (ext_trans HB2.out h3))).mono ?_); rintro e w4 ⟨rfl, h4⟩))
          go_ret3
          exact BAD3.out (by rw [← P2.out, Bool.and_false]) (ext_trans HB2.out (ext_trans h3 h4))
        | true =>
          go_upto_region 8 with (first | (go_at_call 20; (with_reducible refine (PC1.out _ (HR.out.keep HB2.out)).mono ?_); rintro e w3 ⟨rfl, h3⟩; have y0 := keep h3 y0; have y1 := keep h3 y1; have y2 := keep h3 y2) | (go_at_call 20; (with_reducible refine (PC2.out _ (HS.out.keep (ext_trans HB2.out h3))).mono ?_); rintro e w4 ⟨rfl, h4⟩))
          have y0 := keep h4 y0
          have y1 := keep h4 y1
          have y2 := keep h4 y2
          have x0 := keep (ext_trans h3 h4) x0
          have x1 := keep (ext_trans h3 h4) x1
          have x2 := keep (ext_trans h3 h4) x2
          have HB4 := Lib.hid (ext_trans hb2 (ext_trans h3 h4))
          have E3 : Hid (¬ (plain r && plain s) = false) := by show ¬ _; rw [← P1.out, ← P2.out]; simp
          obtain ⟨lr1, lr2, lr3⟩ := plain_len P1.out.symm
          obtain ⟨ls1, ls2, ls3⟩ := plain_len P2.out.symm
          have hns : nh' ≤ 64 := by have := HS.out.terms.2.1; omega
          have HTS := Lib.hid ((HS.out.keep HB4.out).terms)
          have HTR := Lib.hid ((HR.out.keep HB4.out).terms)
          clear hb2 h3 h4 bad BAD3
          go_upto_region 9 with (go_at_call 44; (with_reducible refine (c_layD2 [] s.head r.head none 0 0 ah' ah nh' ch' nh ch (-1) _ (ths_nil _) (by omega) HTS.out HTR.out).mono ?_); rintro e w5 ⟨a2, n2, c2, b2, rfl, h5, ld⟩)
          have x0 := keep h5 x0
          have x1 := keep h5 x1
          have x2 := keep h5 x2
          have y0 := keep h5 y0
          have y1 := keep h5 y1
          have y2 := keep h5 y2
          have HB5 := Lib.hid (ext_trans HB4.out h5)
          clear h5
          rcases layD_lay [] s.head r.head (-1) (show ALok [] from List.nodup_nil) with ⟨e1, e2⟩ | ⟨out, fr, e1, e2, e3, e4⟩
          · unfold LayOutD at ld
            rw [e1] at ld
            subst ld
            have L0 : Hid (laid r s = (0, none)) := by show _ = _; rw [HL.out, if_neg E1.out, if_neg E2.out, if_neg E3.out, e2]
            clear e1 e2
            go_wp2
            go_ret3
            exact ⟨none, 0, 0, by rw [L0.out]; rfl, HB5.out, ⟨_, _, _, rfl⟩, fun _ => rfl, fun l hl => by rw [L0.out] at hl; cases hl⟩
          · unfold LayOutD at ld
            rw [e1] at ld
            obtain ⟨rfl, rfl, ho⟩ := ld
            obtain ⟨ao, co, eo, hth⟩ := own_ths ho
            cases eo
            have hC := c_search r s ls3 ls2 s.body out [] 0 a2 out.length c2 none 0 0 ah nh ch ab nb cb ah' nh' ch' ab' nb' cb' w5 rfl (by simp) e2 (by simp at e4 ⊢; omega) (by omega) hth (nums_nil _) (HR.out.keep HB5.out) (HS.out.keep HB5.out)
            rw [show ((0 : Nat) : Int) = 0 from rfl] at hC
            have HC := Lib.hid hC
            have L1 : Hid (laid r s = match srchR r.body s.body (alT out) [] 0 with
                | .many => (241, none)
                | .none _ => (0, none)
                | .found l => (0, some l)) := by
              show _ = _
              rw [HL.out, if_neg E1.out, if_neg E2.out, if_neg E3.out, e3]
            clear hC ho hth e1 e2 e3 e4
            go_upto_region 12 with (go_at_call 45; (with_reducible refine HC.out.mono ?_); rintro e w6 hp; obtain ⟨a6, n6, c6, x6, rfl, h6, so⟩ := search_one hp; clear hp)
            obtain ⟨R2, hR2⟩ : ∃ R, R = srchR r.body s.body (alT out) [] 0 := ⟨_, rfl⟩
            rw [← hR2] at so
            have HR2 := Lib.hid hR2
            have HB6 := Lib.hid (ext_trans HB5.out h6)
            clear hR2 h6
            cases R2 with
            | many =>
              obtain ⟨rfl, rfl, rfl, rfl⟩ := so
              have L2 : Hid (laid r s = (241, none)) := by show _ = _; rw [L1.out, ← HR2.out]
              go_wp2
              go_ret3
              exact ⟨none, 0, 0, by rw [L2.out]; rfl, HB6.out, ⟨_, _, _, rfl⟩, fun _ => rfl, fun l hl => by rw [L2.out] at hl; cases hl⟩
            | none lk2 =>
              obtain ⟨rfl, rfl, rfl, rfl⟩ := so
              have nn := nil_neI
              have L2 : Hid (laid r s = (0, Option.none)) := by show _ = _; rw [L1.out, ← HR2.out]
              go_wp2
              go_ret3
              exact ⟨Option.none, 0, 0, by rw [L2.out]; rfl, HB6.out, ⟨_, _, _, rfl⟩, fun _ => rfl, fun l hl => by rw [L2.out] at hl; cases hl⟩
            | found L =>
              obtain ⟨g6, lk6, rfl, rfl, rfl, hown6⟩ := so
              have nn := some_neI ⟨g6, 0, Option.none⟩ L.length c6
              have HO6 := Lib.hid hown6
              have L2 : Hid (laid r s = (0, some L)) := by show _ = _; rw [L1.out, ← HR2.out]
              clear hown6
              go_wp2
              go_ret3
              exact ⟨some ⟨g6, 0, Option.none⟩, L.length, c6, by rw [L2.out]; rfl, HB6.out, ⟨_, _, _, rfl⟩, fun hl => by (rw [L2.out] at hl; cases hl), fun l hl => by rw [L2.out] at hl; cases hl; exact own_base HO6.out HB5.out.size⟩
    · have t1 : (m2 != 0) = true := by simpa using e2
      have E2 : Hid (mayRule s ≠ 0) := by show _ ≠ _; rw [← M2.out]; exact e2
      have HB := Lib.hid hb2
      clear e2 hb2
      go_wp2
      go_ret3
      exact bad.out m2 (by rw [HL.out, if_neg E1.out, if_pos E2.out, M2.out]) HB.out
  · have t1 : (m1 == 0) = false := by simpa using e1
    have t2 : (m1 != 0) = true := by simpa using e1
    have E1 : Hid (mayRule r ≠ 0) := by show _ ≠ _; rw [← M1.out]; exact e1
    have HB := Lib.hid hb1
    clear e1 hb1
    go_wp2
    go_ret3
    exact bad.out m1 (by rw [HL.out, if_pos E1.out, M1.out]) HB.out
theorem c_dWithin (r s : Rule) (ah : Option Addr) (nh ch : Nat) (ab : Option Addr) (nb cb : Nat) (ah' : Option Addr) (nh' ch' : Nat) (ab' : Option Addr) (nb' cb' : Nat) (w : World) (hr : RuleV w r ah nh ch ab nb cb) (hs : RuleV w s ah' nh' ch' ab' nb' cb') :
    Calls Try.prog 21 #[.agg #[.string r.head.pred, .slice ah nh ch, .slice ab nb cb], .agg #[.string s.head.pred, .slice ah' nh' ch', .slice ab' nb' cb']] w fun e w' => e = .returned (.tuple #[.bool (laid r s).2.isSome, .int .i64 (laid r s).1]) ∧ Ext w w' := by
  have HR := Lib.hid hr
  have HS := Lib.hid hs
  clear hr hs
  go_enter Try.func21, Try.ntmps21
  go_wp2_with (go_at_call 18; (with_reducible refine (c_dLaid r s _ _ _ _ _ _ _ _ _ _ _ _ _ (HR.out.keep (ext_alloc (ext_alloc (Below.refl _ _) _) _)) (HS.out.keep (ext_alloc (ext_alloc (Below.refl _ _) _) _))).mono ?_); rintro e w1 ⟨a, n, cap, rfl, hb, _⟩)
  go_ret2
  exact ⟨rfl, ext_after hb (ext_alloc (ext_alloc (Below.refl _ _) _) _)⟩
set_option maxHeartbeats 1000000 in
theorem c_dSame (r s : Rule) (ah : Option Addr) (nh ch : Nat) (ab : Option Addr) (nb cb : Nat) (ah' : Option Addr) (nh' ch' : Nat) (ab' : Option Addr) (nb' cb' : Nat) (w : World) (hr : RuleV w r ah nh ch ab nb cb) (hs : RuleV w s ah' nh' ch' ab' nb' cb') :
    Calls Try.prog 23 #[.agg #[.string r.head.pred, .slice ah nh ch, .slice ab nb cb], .agg #[.string s.head.pred, .slice ah' nh' ch', .slice ab' nb' cb']] w fun e w' => e = .returned (.tuple #[.bool (sameC r s).1, .int .i64 (sameC r s).2]) ∧ Ext w w' := by
  have HR := Lib.hid hr
  have HS := Lib.hid hs
  clear hr hs
  go_enter Try.func23, Try.ntmps23
  go_upto_region 1 with (fail)
  refine wp_gen (fun W hW => ?_)
  have hb0 : Ext w W := by rw [hW]; go_grown
  have x0 : W.cell? ⟨w.heap.size, 0, none⟩ = some (.string r.head.pred) := by rw [hW]; go_simp
  have x1 : W.cell? ⟨w.heap.size, 1, none⟩ = some (.slice ah nh ch) := by rw [hW]; go_simp
  have x2 : W.cell? ⟨w.heap.size, 2, none⟩ = some (.slice ab nb cb) := by rw [hW]; go_simp
  have y0 : W.cell? ⟨w.heap.size + 1, 0, none⟩ = some (.string s.head.pred) := by rw [hW]; go_simp
  have y1 : W.cell? ⟨w.heap.size + 1, 1, none⟩ = some (.slice ah' nh' ch') := by rw [hW]; go_simp
  have y2 : W.cell? ⟨w.heap.size + 1, 2, none⟩ = some (.slice ab' nb' cb') := by rw [hW]; go_simp
  clear hW
  obtain ⟨B, hB⟩ : ∃ b, (laid r s).2.isSome = b := ⟨_, rfl⟩
  have HB := Lib.hid hB
  clear hB
  obtain ⟨z, hz⟩ : ∃ z, (laid r s).1 = z := ⟨_, rfl⟩
  have HZ := Lib.hid hz
  clear hz
  have C : Hid (∀ w, RuleV w r ah nh ch ab nb cb → RuleV w s ah' nh' ch' ab' nb' cb' → Calls Try.prog 21 #[.agg #[.string r.head.pred, .slice ah nh ch, .slice ab nb cb], .agg #[.string s.head.pred, .slice ah' nh' ch', .slice ab' nb' cb']] w fun e w' => e = .returned (.tuple #[.bool B, .int .i64 z]) ∧ Ext w w') := by
    intro w hr hs
    have h := c_dWithin r s _ _ _ _ _ _ _ _ _ _ _ _ w hr hs
    rw [HB.out, HZ.out] at h
    exact h
  cases B with
  | false =>
    have fin : Hid (sameC r s = (false, z)) := by show _ = _; unfold sameC; rw [if_pos HB.out, HZ.out]
    by_cases h0 : z = 0
    · subst h0
      go_wp2_with (go_at_call 21; (with_reducible refine (C.out W (HR.out.keep hb0) (HS.out.keep hb0)).mono ?_); rintro e w1 ⟨rfl, hb⟩)
      go_ret2
      exact ⟨by rw [fin.out]; rfl, ext_trans hb0 hb⟩
    · have t1 : (z != 0) = true := by simpa using h0
      clear h0
      go_wp2_with (go_at_call 21; (with_reducible refine (C.out W (HR.out.keep hb0) (HS.out.keep hb0)).mono ?_); rintro e w1 ⟨rfl, hb⟩)
      go_ret2
      exact ⟨by rw [fin.out]; rfl, ext_trans hb0 hb⟩
  | true =>
    obtain rfl : z = 0 := by
      obtain ⟨l, hl⟩ := Option.isSome_iff_exists.1 HB.out
      rw [← HZ.out]
      exact laid_zero hl
    go_wp2_with (first | (go_at_call 21; (with_reducible refine (C.out W (HR.out.keep hb0) (HS.out.keep hb0)).mono ?_); rintro e w1 ⟨rfl, hb⟩; have x0 := keep hb x0; have x1 := keep hb x1; have x2 := keep hb x2; have y0 := keep hb y0; have y1 := keep hb y1; have y2 := keep hb y2; have g1 := ext_trans hb0 hb) | (go_at_call 21; (with_reducible refine (c_dWithin s r _ _ _ _ _ _ _ _ _ _ _ _ w1 (HS.out.keep g1) (HR.out.keep g1)).mono ?_); rintro e w2 ⟨rfl, hb2⟩))
    go_ret2
    exact ⟨by unfold sameC; rw [if_neg (by rw [HB.out]; simp)]; rfl, ext_trans g1 hb2⟩
end Go.Proofs.Ytcphjfggjjonpaa
