/- The walks of syntax.mayTerm, mayAtom, mayLiteral, MayRule: each comes to its plain function and writes nothing that was there. -/
import Derived.Test.YtlalgaioiapjmaaGreatDoorG0
namespace Go.Proofs.YtlalgaioiapjmaaGreatDoor.K
open Go.ChangeShapes Go.WideShapes Go.ChangeAt Go.RowKit
attribute [local go_sem] neq_term eql_term
theorem c_mayTerm (t : Term) (w : World) (hs : t.text.size ≤ maxLen) : Calls Tryz.prog 138 #[.agg #[.int .i64 t.kind, .string t.text]] w fun e w' => e = .returned (.int .i64 (mayTerm t)) ∧ Ext w w' := by
  go_enter Tryz.func138, Tryz.ntmps138
  go_wp2_with (first | (go_at_call 137; (with_reducible refine (c_mayWord _ _ _ hs).mono ?_); rintro e w1 ⟨rfl, hb⟩) | (go_at_call 162; (with_reducible refine (c_mayLong _ _ hs).mono ?_); rintro e w2 ⟨rfl, rfl⟩))
  all_goals
    go_ret
    refine ⟨ret_int ?_, by first | (exact ext_after (by assumption) (by go_grown)) | (go_grown; done)⟩
    unfold mayTerm
    simp only [beq_iff_eq, beq_eq_false_iff_ne, text_empty, text_full, Bool.not_eq_eq_eq_not, Bool.not_true, Bool.not_false, toList_eq_iff, ne_eq] at *
    simp_all
def AtomInv (ts : List Term) (head : Bool) (n : Nat) (W : World) (h i : Value) (wr : World) : Prop :=
  ∃ (k : Nat) (b : Bool), k ≤ n ∧ h = .bool b ∧ i = .int .i64 k ∧ Ext W wr ∧ mayTerms ts head = mayTerms (ts.drop k) b
theorem c_mayAtom (at_ : Atom) (a : Option Addr) (n cap : Nat) (head : Bool) (w : World) (hp : at_.pred.size ≤ maxLen) (ht : TermsAt w a n at_.terms) :
    Calls Tryz.prog 105 #[.agg #[.string at_.pred, .slice a n cap], .bool head] w fun e w' => e = .returned (.int .i64 (mayAtom at_ head)) ∧ Ext w w' := by
  have hn := ht.1
  have hlen := ht.2.1
  have HL := Lib.hid hlen
  clear hlen
  go_enter Tryz.func105, Tryz.ntmps105
  go_wp2_with (go_at_call 137; (with_reducible refine (c_mayWord _ _ _ hp).mono ?_); rintro e w1 ⟨rfl, hb⟩; have d1 : w1.cell? ⟨w.heap.size, 1, none⟩ = some (.slice a n cap) := keep hb (by go_simp))
  · go_ret
    refine ⟨ret_int ?_, ext_after (by assumption) (by go_grown)⟩
    unfold mayAtom
    simp_all
  · go_ret
    refine ⟨ret_int ?_, ext_after (by assumption) (by go_grown)⟩
    unfold mayAtom
    have := HL.out
    rw [if_neg (by simp_all), if_pos (by omega)]
  · have hb0 : Ext w w1 := ext_after hb (by go_grown)
    have ht1 := ht.keep hb0
    have HA : Hid (mayAtom at_ head = mayTerms at_.terms head) := by
      have := HL.out
      show _ = _
      unfold mayAtom
      rw [if_neg (by simp_all), if_neg (by omega)]
    have HT := Lib.hid ht1
    rename (mayWord at_.pred 1 != 0) = false => g1
    rename (n : Int) ≤ 64 => g2
    clear ht ht1 hb d1 g1 g2
    go_loopw [1, 22] (fun h i wr => AtomInv at_.terms head n w1 h i wr) (fun _ i _ => n - (intOf i).toNat)
    case atStart => exact ⟨0, head, by omega, rfl, rfl, Below.refl _ _, by simp⟩
    case round =>
      obtain ⟨k, b, hk, rfl, rfl, hb, hq⟩ := hrel
      have HQ := Lib.hid hq
      clear hq
      by_cases hlt : k < n
      · obtain ⟨t, bt, off, hx, rfl, hc1, hc2, hc3⟩ := (HT.out.keep hb).2.at hlt
        have HX := Lib.hid (drop_at hx)
        clear hx
        go_wp2_with (go_at_call 138; (with_reducible refine (c_mayTerm _ _ hc3).mono ?_); rintro e w2 ⟨rfl, hb2⟩)
        all_goals first | (go_roundw; (case rel => exact ⟨k + 1, _, by omega, rfl, by go_num, ext_after hb2 (ext_alloc hb _), by rw [HQ.out, HX.out, mayTerms]; grind⟩); (case measure => simp [intOf]; omega)) | skip
        all_goals
          go_ret
          refine ⟨ret_int ?_, by first | exact ext_trans hb0 (ext_after hb2 (ext_alloc hb _)) | exact ext_trans hb0 (ext_alloc hb _)⟩
          rw [HA.out, HQ.out, HX.out, mayTerms]
          grind
      · go_wp2
        go_ret
        refine ⟨ret_int ?_, ext_trans hb0 hb⟩
        rw [HA.out, HQ.out, List.drop_of_length_le (by have := HL.out; omega)]
        rfl
theorem noTerm_iff (t : Term) : t = noTerm ↔ t.kind = 0 ∧ t.text = ⟨#[]⟩ := by
  obtain ⟨k, s⟩ := t
  simp [noTerm]
set_option maxHeartbeats 1000000 in
theorem c_mayLit (l : Lit) (a : Option Addr) (n cap : Nat) (w : World) (hp : l.atom.pred.size ≤ maxLen) (hl : l.left.text.size ≤ maxLen) (hr : l.right.text.size ≤ maxLen) (ht : TermsAt w a n l.atom.terms) :
    Calls Tryz.prog 106 #[.agg #[.int .i64 l.kind, .string l.atom.pred, .slice a n cap, .int .i64 l.op, .int .i64 l.left.kind, .string l.left.text, .int .i64 l.right.kind, .string l.right.text]] w fun e w' => e = .returned (.int .i64 (mayLit l)) ∧ Ext w w' := by
  have hn := ht.1
  have hlen := ht.2.1
  have hnil : l.atom.terms = [] ↔ n = 0 := by rw [← hlen, List.length_eq_zero_iff]
  have HL := Lib.hid hnil
  clear hlen hnil
  have i0 : ∀ (w : World) (x0 x1 x2 x3 : Value), (Instr.index 196 (.agg #[x0, x1, x2, x3]) (.int .i64 0)).run Tryz.prog w = .ok (.agg #[x0, x1]) w := fun _ _ _ _ _ => by kernel_rfl
  have i1 : ∀ (w : World) (x0 x1 x2 x3 : Value), (Instr.index 196 (.agg #[x0, x1, x2, x3]) (.int .i64 1)).run Tryz.prog w = .ok (.agg #[x2, x3]) w := fun _ _ _ _ _ => by kernel_rfl
  obtain ⟨bp, ep⟩ : ∃ b, l.atom.pred.toList.isEmpty = b := ⟨_, rfl⟩
  obtain ⟨bn, en⟩ : ∃ b, ((n : Int) == 0) = b := ⟨_, rfl⟩
  obtain ⟨bo, eo⟩ : ∃ b, (l.op == 0) = b := ⟨_, rfl⟩
  obtain ⟨bl, el⟩ : ∃ b, termEq l.left.kind l.left.text 0 ⟨#[]⟩ = b := ⟨_, rfl⟩
  obtain ⟨br, er⟩ : ∃ b, termEq l.right.kind l.right.text 0 ⟨#[]⟩ = b := ⟨_, rfl⟩
  obtain ⟨b1, e1⟩ : ∃ b, (l.kind == 1) = b := ⟨_, rfl⟩
  obtain ⟨b2, e2⟩ : ∃ b, (l.kind == 2) = b := ⟨_, rfl⟩
  obtain ⟨b3, e3⟩ : ∃ b, (l.kind != 3) = b := ⟨_, rfl⟩
  obtain ⟨b4, e4⟩ : ∃ b, decide (l.op < 1) = b := ⟨_, rfl⟩
  obtain ⟨b5, e5⟩ : ∃ b, decide (4 < l.op) = b := ⟨_, rfl⟩
  have fin : Hid (mayLit l = if ((b1 || b2) && (bo && bl && br)) = true then mayAtom l.atom false else if (b3 || !(bp && bn) || b4 || b5) = true then 80 else if mayPlainTerm l.left ≠ 0 then mayPlainTerm l.left else mayPlainTerm l.right) := by
    show _ = _
    have hp' : l.atom.pred = ⟨#[]⟩ ↔ bp = true := by rw [← ep, text_empty]
    unfold mayLit
    have hl' : l.left = noTerm ↔ bl = true := by rw [← el]; simp [termEq, noTerm_iff]
    have hr' : l.right = noTerm ↔ br = true := by rw [← er]; simp [termEq, noTerm_iff]
    have hn' : n = 0 ↔ bn = true := by rw [← en]; simp
    simp only [hl', hr', hn', HL.out, hp']
    clear hl' hr' hn' hp' ep el er en i0 i1 ht
    subst eo e1 e2 e3 e4 e5
    simp only [Bool.and_eq_true, Bool.or_eq_true, beq_iff_eq, bne_iff_ne, decide_eq_true_eq, Bool.not_eq_true', Bool.and_eq_false_iff]
    grind
  obtain ⟨N, hN⟩ : ∃ N, (bp && bn) = N := ⟨_, rfl⟩
  obtain ⟨B, hB⟩ : ∃ B, (bo && bl && br) = B := ⟨_, rfl⟩
  obtain ⟨T, hT⟩ : ∃ T, ((b1 || b2) && B) = T := ⟨_, rfl⟩
  obtain ⟨R, hR⟩ : ∃ R, (b3 || !N || b4 || b5) = R := ⟨_, rfl⟩
  have fin2 : Hid (mayLit l = if T = true then mayAtom l.atom false else if R = true then 80 else if mayPlainTerm l.left ≠ 0 then mayPlainTerm l.left else mayPlainTerm l.right) := by
    have h := fin.out
    rw [hN, hB, hT, hR] at h
    exact h
  clear fin
  have HN := Lib.hid hN
  have HB := Lib.hid hB
  have HT := Lib.hid hT
  have HR := Lib.hid hR
  clear hN hB hT hR
  have ql : ∀ w, (binOp .eql 42 (.agg #[.int .i64 l.left.kind, .string l.left.text]) (.agg #[.int .i64 0, .string ⟨#[]⟩])).run Tryz.prog w = .ok (.bool bl) w := fun w => by rw [eql_term, el]
  have qr : ∀ w, (binOp .eql 42 (.agg #[.int .i64 l.right.kind, .string l.right.text]) (.agg #[.int .i64 0, .string ⟨#[]⟩])).run Tryz.prog w = .ok (.bool br) w := fun w => by rw [eql_term, er]
  clear el er
  go_enter Tryz.func106, Tryz.ntmps106
  go_upto_region 1 with (fail)
  refine wp_gen (fun W hW => ?_)
  have hb0 : Ext w W := by rw [hW]; go_grown
  have d0 : W.cell? ⟨w.heap.size, 0, none⟩ = some (.int .i64 l.kind) := by rw [hW]; go_simp
  have d1 : W.cell? ⟨w.heap.size, 1, none⟩ = some (.string l.atom.pred) := by rw [hW]; go_simp
  have d2 : W.cell? ⟨w.heap.size, 2, none⟩ = some (.slice a n cap) := by rw [hW]; go_simp
  have d3 : W.cell? ⟨w.heap.size, 3, none⟩ = some (.int .i64 l.op) := by rw [hW]; go_simp
  have d4 : W.cell? ⟨w.heap.size, 4, none⟩ = some (.int .i64 l.left.kind) := by rw [hW]; go_simp
  have d5 : W.cell? ⟨w.heap.size, 5, none⟩ = some (.string l.left.text) := by rw [hW]; go_simp
  have d6 : W.cell? ⟨w.heap.size, 6, none⟩ = some (.int .i64 l.right.kind) := by rw [hW]; go_simp
  have d7 : W.cell? ⟨w.heap.size, 7, none⟩ = some (.string l.right.text) := by rw [hW]; go_simp
  clear hW
  go_cut [3] (fun v wc => v = .bool N ∧ wc = W)
  case first =>
    go_wp2
    all_goals
      go_meet
      refine ⟨congrArg Value.bool ?_, rfl⟩
      rw [← HN.out]
      grind
  case rest =>
    obtain ⟨rfl, rfl⟩ := hcut
    go_upto_region 2 with (fail)
    go_cut [4] (fun v wc' => v = .bool B ∧ wc' = wc)
    case first =>
      go_wp2
      all_goals
        go_meet
        refine ⟨congrArg Value.bool ?_, rfl⟩
        rw [← HB.out]
        grind
    case rest =>
      obtain ⟨rfl, rfl⟩ := hcut
      go_upto_region 3 with (fail)
      go_cut [34] (fun v wc' => v = .bool T ∧ wc' = wc)
      case first =>
        go_wp2
        all_goals
          go_meet
          refine ⟨congrArg Value.bool ?_, rfl⟩
          rw [← HT.out]
          grind
      case rest =>
        obtain ⟨rfl, rfl⟩ := hcut
        cases T with
        | true =>
          go_wp2_with (go_at_call 105; (with_reducible refine (c_mayAtom l.atom _ _ _ _ _ hp (ht.keep hb0)).mono ?_); rintro e w1 ⟨rfl, hb⟩)
          go_ret
          refine ⟨ret_int ?_, ext_trans hb0 hb⟩
          rw [fin2.out]
          simp
        | false =>
          go_upto_region 5 with (fail)
          go_cut [3, 49] (fun _ v wc' => v = .bool R ∧ wc' = wc)
          case first =>
            go_wp2
            all_goals
              go_meet
              refine ⟨congrArg Value.bool ?_, rfl⟩
              rw [← HR.out]
              grind
          case rest =>
            obtain ⟨rfl, rfl⟩ := hcut
            cases R with
            | true =>
              go_wp2
              go_ret
              refine ⟨ret_int ?_, hb0⟩
              rw [fin2.out]
              simp
            | false =>
              have fin3 : Hid (mayLit l = if mayPlainTerm l.left ≠ 0 then mayPlainTerm l.left else mayPlainTerm l.right) := by
                have h := fin2.out
                show _ = _
                simpa using h
              clear fin2
              go_wp2
              refine wp_loop_rounds 3 ?_
              rw [rounds_succ]
              go_wp2_with (go_at_call 138; (with_reducible refine (c_mayTerm l.left _ hl).mono ?_); rintro e w1 ⟨rfl, hb⟩)
              · go_ret
                refine ⟨ret_int ?_, ext_trans hb0 (ext_alloc (Below.refl _ _) _)⟩
                rw [fin3.out]
                unfold mayPlainTerm
                grind
              · go_ret
                refine ⟨ret_int ?_, ext_trans hb0 (ext_after hb (ext_alloc (Below.refl _ _) _))⟩
                rw [fin3.out]
                unfold mayPlainTerm
                grind
              · rw [rounds_succ]
                go_wp2_with (go_at_call 138; (with_reducible refine (c_mayTerm l.right _ hr).mono ?_); rintro e w2 ⟨rfl, hb2⟩)
                · go_ret
                  refine ⟨ret_int ?_, ext_trans hb0 (ext_trans (ext_after hb (ext_alloc (Below.refl _ _) _)) (ext_alloc (Below.refl _ _) _))⟩
                  rw [fin3.out]
                  unfold mayPlainTerm
                  grind
                · go_ret
                  refine ⟨ret_int ?_, ext_trans hb0 (ext_trans (ext_after hb (ext_alloc (Below.refl _ _) _)) (ext_after hb2 (ext_alloc (Below.refl _ _) _)))⟩
                  rw [fin3.out]
                  unfold mayPlainTerm
                  grind
                · rw [rounds_succ]
                  go_wp2
                  go_ret
                  refine ⟨ret_int ?_, ext_trans hb0 (ext_trans (ext_after hb (ext_alloc (Below.refl _ _) _)) (ext_after hb2 (ext_alloc (Below.refl _ _) _)))⟩
                  rw [fin3.out]
                  unfold mayPlainTerm
                  grind
def RuleInv (ls : List Lit) (n : Nat) (W : World) (i : Value) (wr : World) : Prop :=
  ∃ k : Nat, k ≤ n ∧ i = .int .i64 k ∧ Ext W wr ∧ mayLits ls = mayLits (ls.drop k)
theorem c_MayRule (r : Rule) (ah : Option Addr) (nh ch : Nat) (ab : Option Addr) (nb cb : Nat) (w : World) (hr : RuleV w r ah nh ch ab nb cb) :
    Calls Tryz.prog 74 #[.agg #[.string r.head.pred, .slice ah nh ch, .slice ab nb cb]] w fun e w' => e = .returned (.int .i64 (mayRule r)) ∧ Ext w w' := by
  have hn := hr.body.1
  have HL := Lib.hid hr.body.2.1
  have HR := Lib.hid hr
  clear hr
  obtain ⟨ba, ea⟩ : ∃ b, (mayAtom r.head true != 0) = b := ⟨_, rfl⟩
  obtain ⟨bl, el⟩ : ∃ b, decide ((64 : Int) < nb) = b := ⟨_, rfl⟩
  have fin : Hid (mayRule r = if ba = true then mayAtom r.head true else if bl = true then 82 else mayLits r.body) := by
    have hl := HL.out
    show _ = _
    unfold mayRule
    subst ea el
    simp only [bne_iff_ne, decide_eq_true_eq]
    grind
  have arm := c_mayAtom r.head ah nh ch true
  cases ba with
  | true =>
    go_enter Tryz.func74, Tryz.ntmps74
    go_wp2_with (go_at_call 105; (with_reducible refine (c_mayAtom r.head _ _ _ _ _ HR.out.pred (HR.out.terms.keep (ext_alloc (Below.refl _ _) _))).mono ?_); rintro e w1 ⟨rfl, hb⟩; have d1 : w1.cell? ⟨w.heap.size, 2, none⟩ = some (.slice ab nb cb) := keep hb (by go_simp))
    go_ret
    refine ⟨ret_int ?_, ext_after hb (ext_alloc (Below.refl _ _) _)⟩
    rw [fin.out]
    simp
  | false =>
    cases bl with
    | true =>
      go_enter Tryz.func74, Tryz.ntmps74
      go_wp2_with (go_at_call 105; (with_reducible refine (c_mayAtom r.head _ _ _ _ _ HR.out.pred (HR.out.terms.keep (ext_alloc (Below.refl _ _) _))).mono ?_); rintro e w1 ⟨rfl, hb⟩; have d1 : w1.cell? ⟨w.heap.size, 2, none⟩ = some (.slice ab nb cb) := keep hb (by go_simp))
      go_ret
      refine ⟨ret_int ?_, ext_after hb (ext_alloc (Below.refl _ _) _)⟩
      rw [fin.out]
      simp
    | false =>
      go_enter Tryz.func74, Tryz.ntmps74
      go_wp2_with (go_at_call 105; (with_reducible refine (c_mayAtom r.head _ _ _ _ _ HR.out.pred (HR.out.terms.keep (ext_alloc (Below.refl _ _) _))).mono ?_); rintro e w1 ⟨rfl, hb⟩; have d1 : w1.cell? ⟨w.heap.size, 2, none⟩ = some (.slice ab nb cb) := keep hb (by go_simp))
      have hb0 : Ext w w1 := ext_after hb (ext_alloc (Below.refl _ _) _)
      have HB := Lib.hid (HR.out.body.keep hb0)
      clear hb d1
      go_loopw [20] (fun i wr => RuleInv r.body nb w1 i wr) (fun i _ => nb - (intOf i).toNat)
      case atStart => exact ⟨0, by omega, rfl, Below.refl _ _, by simp⟩
      case round =>
        obtain ⟨k, hk, rfl, hb, hq⟩ := hrel
        have HQ := Lib.hid hq
        clear hq
        by_cases hlt : k < nb
        · obtain ⟨l, bt, off, hx, rfl, a, n, cap, h0, h1, h2, h3, h4, h5, h6, h7, ht, hcap, hp, hl, hr⟩ := (HB.out.keep hb).2.at hlt
          have HX := Lib.hid (drop_at hx)
          clear hx
          go_wp2_with (go_at_call 106; (with_reducible refine (c_mayLit _ _ _ _ _ hp hl hr (ht.keep (ext_alloc (Below.refl _ _) _))).mono ?_); rintro e w2 ⟨rfl, hb2⟩)
          · go_ret
            refine ⟨ret_int ?_, ext_trans hb0 (ext_after hb2 (ext_alloc hb _))⟩
            rw [fin.out, HQ.out, HX.out, mayLits]
            grind
          · go_roundw
            case rel => exact ⟨k + 1, by omega, by go_num, ext_after hb2 (ext_alloc hb _), by rw [HQ.out, HX.out, mayLits]; grind⟩
            case measure => simp [intOf]; omega
        · go_wp2
          go_ret
          refine ⟨ret_int ?_, ext_trans hb0 hb⟩
          rw [fin.out, HQ.out, List.drop_of_length_le (by have := HL.out; omega)]
          rfl
end Go.Proofs.YtlalgaioiapjmaaGreatDoor.K
