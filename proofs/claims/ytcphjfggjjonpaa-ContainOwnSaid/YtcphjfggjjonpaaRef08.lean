/- The walks of the document's mayTerm, mayAtom, mayLiteral, MayRule: they come to the program's own plain functions. -/
import Derived.Test.YtcphjfggjjonpaaRefLex
import Derived.Test.YtcphjfggjjonpaaMay
namespace Go.Proofs.Ytcphjfggjjonpaa
open Go.ChangeShapes Go.WideShapes Go.ChangeAt Go.RowKit
attribute [local go_sem] neq_term eql_term
theorem c_dWord (s : ByteArray) (w : World) (hs : s.size ≤ maxLen) : Calls Try.prog 67 #[.string s] w fun e w' => e = .returned (.int .i64 (lexWord s)) ∧ w' = w := rWord_law s ▸ c_rWord s w hs
theorem c_dTerm (t : Term) (w : World) (hs : t.text.size ≤ maxLen) : Calls Try.prog 68 #[.agg #[.int .i64 t.kind, .string t.text]] w fun e w' => e = .returned (.int .i64 (mayTerm t)) ∧ Ext w w' := by
  obtain ⟨K, hK⟩ : ∃ K, lexWord t.text = K := ⟨_, rfl⟩
  have HK := Lib.hid hK
  clear hK
  go_enter Try.func68, Try.ntmps68
  go_wp2_with (go_at_call 67; (with_reducible refine (c_dWord _ _ hs).mono ?_); rw [HK.out]; rintro e w1 ⟨rfl, hwn⟩; obtain rfl := hwn)
  all_goals
    go_ret
    refine ⟨ret_int ?_, ext_alloc (Below.refl _ _) _⟩
    have hk := HK.out
    unfold mayTerm mayWord mayLong
    simp only [beq_iff_eq, beq_eq_false_iff_ne, text_empty, text_full, Bool.not_eq_eq_eq_not, Bool.not_true, Bool.not_false, toList_eq_iff, ne_eq] at *
    have he : (⟨#[]⟩ : ByteArray).size = 0 := rfl
    grind
def DAtomInv (ts : List Term) (head : Bool) (n : Nat) (W : World) (h i : Value) (wr : World) : Prop :=
  ∃ (k : Nat) (b : Bool), k ≤ n ∧ h = .bool (!b) ∧ i = .int .i64 k ∧ Ext W wr ∧ mayTerms ts head = mayTerms (ts.drop k) b
theorem c_dAtom (at_ : Atom) (a : Option Addr) (n cap : Nat) (head : Bool) (w : World) (hp : at_.pred.size ≤ maxLen) (ht : TermsAt w a n at_.terms) :
    Calls Try.prog 60 #[.agg #[.string at_.pred, .slice a n cap], .bool head] w fun e w' => e = .returned (.int .i64 (mayAtom at_ head)) ∧ Ext w w' := by
  have hn := ht.1
  have hlen := ht.2.1
  have HL := Lib.hid hlen
  clear hlen
  obtain ⟨K, hK⟩ : ∃ K, lexWord at_.pred = K := ⟨_, rfl⟩
  have HK := Lib.hid hK
  clear hK
  obtain ⟨b1, e1⟩ : ∃ b, (K != 1) = b := ⟨_, rfl⟩
  obtain ⟨b2, e2⟩ : ∃ b, decide (4096 < at_.pred.size) = b := ⟨_, rfl⟩
  obtain ⟨b3, e3⟩ : ∃ b, decide ((64 : Int) < n) = b := ⟨_, rfl⟩
  have fin : Hid (mayAtom at_ head = if b1 = true then 80 else if b2 = true then 84 else if b3 = true then 83 else mayTerms at_.terms head) := by
    show _ = _
    have hl := HL.out
    unfold mayAtom mayWord mayLong
    rw [HK.out]
    subst e1 e2 e3
    simp only [bne_iff_ne, decide_eq_true_eq]
    grind
  have hsz : (4096 < (at_.pred.size : Int)) = (b2 = true) := by rw [← e2]; simp; omega
  cases b1 with
  | true =>
    go_enter Try.func60, Try.ntmps60
    go_wp2_with (go_at_call 67; (with_reducible refine (c_dWord _ _ hp).mono ?_); rw [HK.out]; rintro e w1 ⟨rfl, hwn⟩; obtain rfl := hwn)
    go_ret
    exact ⟨ret_int (by rw [fin.out]; simp), ext_alloc (Below.refl _ _) _⟩
  | false =>
    cases b2 with
    | true =>
      have h2 : (4096 : Int) < (at_.pred.size : Int) := by simpa using hsz
      go_enter Try.func60, Try.ntmps60
      go_wp2_with (go_at_call 67; (with_reducible refine (c_dWord _ _ hp).mono ?_); rw [HK.out]; rintro e w1 ⟨rfl, hwn⟩; obtain rfl := hwn)
      go_ret
      exact ⟨ret_int (by rw [fin.out]; simp), ext_alloc (Below.refl _ _) _⟩
    | false =>
      have h2 : (at_.pred.size : Int) ≤ 4096 := by simpa using hsz
      cases b3 with
      | true =>
        go_enter Try.func60, Try.ntmps60
        go_wp2_with (go_at_call 67; (with_reducible refine (c_dWord _ _ hp).mono ?_); rw [HK.out]; rintro e w1 ⟨rfl, hwn⟩; obtain rfl := hwn)
        go_ret
        exact ⟨ret_int (by rw [fin.out]; simp), ext_alloc (Below.refl _ _) _⟩
      | false =>
        have HA : Hid (mayAtom at_ head = mayTerms at_.terms head) := by
          have h := fin.out
          show _ = _
          simpa using h
        go_enter Try.func60, Try.ntmps60
        go_upto_region 1 with (fail)
        refine wp_gen (fun w1 hW => ?_)
        have hb0 : Ext w w1 := by rw [hW]; go_grown
        have d0 : w1.cell? ⟨w.heap.size, 0, none⟩ = some (.string at_.pred) := by rw [hW]; go_simp
        have d1 : w1.cell? ⟨w.heap.size, 1, none⟩ = some (.slice a n cap) := by rw [hW]; go_simp
        clear hW
        have HT := Lib.hid (ht.keep hb0)
        clear ht
        go_wp2_with (go_at_call 67; (with_reducible refine (c_dWord _ _ hp).mono ?_); rw [HK.out]; rintro e w2 ⟨rfl, hwn⟩; obtain rfl := hwn.symm)
        clear fin e1 e2 e3 hsz h2
        go_loopw [5, 6] (fun h i wr => DAtomInv at_.terms head n w1 h i wr) (fun _ i _ => n - (intOf i).toNat)
        case atStart => exact ⟨0, head, by omega, rfl, rfl, Below.refl _ _, by simp⟩
        case round =>
          obtain ⟨k, b, hk, rfl, rfl, hb, hq⟩ := hrel
          have HQ := Lib.hid hq
          have z1 := keep hb d1
          have HB := Lib.hid hb
          clear hq
          by_cases hlt : k < n
          · obtain ⟨t, bt_, off, hx, rfl, hc1, hc2, hc3⟩ := (HT.out.keep hb).2.at hlt
            have HX := Lib.hid (drop_at hx)
            clear hx
            have hki : (k : Int) < (n : Int) := by omega
            go_wp2_with (go_at_call 68; (with_reducible refine (c_dTerm _ _ hc3).mono ?_); rintro e w2 ⟨rfl, hb2⟩)
            all_goals first | (go_roundw; (case rel => first | exact ⟨k + 1, b, by omega, rfl, by go_num, ext_trans hb hb2, by rw [HQ.out, HX.out, mayTerms]; grind⟩ | exact ⟨k + 1, false, by omega, rfl, by go_num, ext_trans hb hb2, by rw [HQ.out, HX.out, mayTerms]; grind⟩ | exact ⟨k + 1, true, by omega, rfl, by go_num, ext_trans hb hb2, by rw [HQ.out, HX.out, mayTerms]; grind⟩); (case measure => simp [intOf]; omega)) | skip
            all_goals
              go_ret
              refine ⟨ret_int ?_, by first | exact ext_trans hb0 (ext_trans hb hb2) | exact ext_trans hb0 hb⟩
              rw [HA.out, HQ.out, HX.out, mayTerms]
              grind
          · go_wp2
            go_ret
            refine ⟨ret_int ?_, ext_trans hb0 hb⟩
            rw [HA.out, HQ.out, List.drop_of_length_le (by have := HL.out; omega)]
            rfl
set_option maxHeartbeats 1000000 in
theorem c_dLit (l : Lit) (a : Option Addr) (n cap : Nat) (w : World) (hp : l.atom.pred.size ≤ maxLen) (hl : l.left.text.size ≤ maxLen) (hr : l.right.text.size ≤ maxLen) (ht : TermsAt w a n l.atom.terms) :
    Calls Try.prog 61 #[.agg #[.int .i64 l.kind, .string l.atom.pred, .slice a n cap, .int .i64 l.op, .int .i64 l.left.kind, .string l.left.text, .int .i64 l.right.kind, .string l.right.text]] w fun e w' => e = .returned (.int .i64 (mayLit l)) ∧ Ext w w' := by
  have hn := ht.1
  have hlen := ht.2.1
  have hnil : l.atom.terms = [] ↔ n = 0 := by rw [← hlen, List.length_eq_zero_iff]
  have HL := Lib.hid hnil
  clear hlen hnil
  obtain ⟨bp, ep⟩ : ∃ b, l.atom.pred.toList.isEmpty = b := ⟨_, rfl⟩
  obtain ⟨bn, en⟩ : ∃ b, decide ((0 : Int) < (n : Int)) = b := ⟨_, rfl⟩
  obtain ⟨bo, eo⟩ : ∃ b, (l.op != 0) = b := ⟨_, rfl⟩
  obtain ⟨bl, el⟩ : ∃ b, termEq l.left.kind l.left.text 0 ⟨#[]⟩ = b := ⟨_, rfl⟩
  obtain ⟨br, er⟩ : ∃ b, termEq l.right.kind l.right.text 0 ⟨#[]⟩ = b := ⟨_, rfl⟩
  obtain ⟨b1, e1⟩ : ∃ b, (l.kind == 1) = b := ⟨_, rfl⟩
  obtain ⟨b2, e2⟩ : ∃ b, (l.kind == 2) = b := ⟨_, rfl⟩
  obtain ⟨b3, e3⟩ : ∃ b, (l.kind != 3) = b := ⟨_, rfl⟩
  obtain ⟨b4, e4⟩ : ∃ b, decide (l.op < 1) = b := ⟨_, rfl⟩
  obtain ⟨b5, e5⟩ : ∃ b, decide (4 < l.op) = b := ⟨_, rfl⟩
  obtain ⟨T, hT⟩ : ∃ T, (b1 || b2) = T := ⟨_, rfl⟩
  obtain ⟨B, hB⟩ : ∃ B, (bo || !bl || !br) = B := ⟨_, rfl⟩
  obtain ⟨R, hR⟩ : ∃ R, (b3 || !bp || bn || b4 || b5) = R := ⟨_, rfl⟩
  have fin : Hid (mayLit l = if T = true then (if B = true then 80 else mayAtom l.atom false) else if R = true then 80 else if mayPlainTerm l.left ≠ 0 then mayPlainTerm l.left else mayPlainTerm l.right) := by
    show _ = _
    have hp' : l.atom.pred = ⟨#[]⟩ ↔ bp = true := by rw [← ep, text_empty]
    unfold mayLit
    have hl' : l.left = noTerm ↔ bl = true := by rw [← el]; simp [termEq, noTerm_iff]
    have hr' : l.right = noTerm ↔ br = true := by rw [← er]; simp [termEq, noTerm_iff]
    have hn' : n = 0 ↔ bn = false := by rw [← en]; simp
    simp only [hl', hr', hn', HL.out, hp']
    clear hl' hr' hn' hp' ep el er en ht
    subst hT hB hR
    subst eo e1 e2 e3 e4 e5
    simp only [Bool.or_eq_true, beq_iff_eq, bne_iff_ne, decide_eq_true_eq, Bool.not_eq_true']
    grind
  have HT := Lib.hid hT
  have HB := Lib.hid hB
  have HR := Lib.hid hR
  clear hT hB hR
  have ql : ∀ w, (binOp .neq 37 (.agg #[.int .i64 l.left.kind, .string l.left.text]) (.agg #[.int .i64 0, .string ⟨#[]⟩])).run Try.prog w = .ok (.bool (!bl)) w := fun w => by rw [neq_term, el]
  have qr : ∀ w, (binOp .neq 37 (.agg #[.int .i64 l.right.kind, .string l.right.text]) (.agg #[.int .i64 0, .string ⟨#[]⟩])).run Try.prog w = .ok (.bool (!br)) w := fun w => by rw [neq_term, er]
  have HBN : Hid (n = 0 → bn = false) := fun h => by rw [← en, h]; rfl
  clear el er
  go_enter Try.func61, Try.ntmps61
  go_upto_region 1 with (fail)
  refine wp_gen (fun W hW => ?_)
  have hb0 : Ext w W := by rw [hW]; go_grown
  have d0 : W.cell? ⟨w.heap.size, 0, none⟩ = some (.int .i64 l.kind) := by rw [hW]; go_simp
  have d1 : W.cell? ⟨w.heap.size, 1, none⟩ = some (.string l.atom.pred) := by rw [hW]; go_simp
  have d2 : W.cell? ⟨w.heap.size, 2, none⟩ = some (.slice a n cap) := by rw [hW]; go_simp
  have d3 : W.cell? ⟨w.heap.size, 3, none⟩ = some (.int .i64 l.op) := by rw [hW]; go_simp
  have d4 : W.cell? ⟨w.heap.size, 4, none⟩ = some (.int .i64 l.left.kind) := by rw [hW]; go_simp
  have d5 : W.cell? ⟨w.heap.size, 5, none⟩ = some (.string l.left.text) := by rw [hW]; go_simp
  have d6 : W.cell? ⟨w.heap.size, 6, none⟩ = some (.int .i64 l.right.kind) := by rw [hW]; go_simp
  have d7 : W.cell? ⟨w.heap.size, 7, none⟩ = some (.string l.right.text) := by rw [hW]; go_simp
  clear hW
  go_cut [11] (fun v wc => v = .bool T ∧ W = wc)
  case first =>
    go_wp2
    all_goals
      go_meet
      refine ⟨congrArg Value.bool ?_, rfl⟩
      rw [← HT.out]
      grind
  case rest =>
    obtain ⟨rfl, rfl⟩ := hcut
    cases T with
    | true =>
      go_upto_region 2 with (fail)
      go_cut [26] (fun v wc => v = .bool B ∧ W = wc)
      case first =>
        go_wp2
        all_goals
          go_meet
          refine ⟨congrArg Value.bool ?_, rfl⟩
          rw [← HB.out]
          grind
      case rest =>
        obtain ⟨rfl, rfl⟩ := hcut
        cases B with
        | true =>
          go_wp2
          go_ret
          exact ⟨ret_int (by rw [fin.out]; simp), hb0⟩
        | false =>
          go_wp2_with (go_at_call 60; (with_reducible refine (c_dAtom l.atom _ _ _ _ _ hp (ht.keep hb0)).mono ?_); rintro e w1 ⟨rfl, hb⟩)
          go_ret
          exact ⟨ret_int (by rw [fin.out]; simp), ext_trans hb0 hb⟩
    | false =>
      go_upto_region 5 with (fail)
      go_cut [0, 55] (fun _ v wc => v = .bool R ∧ W = wc)
      case first =>
        go_wp2
        all_goals
          go_meet
          refine ⟨congrArg Value.bool ?_, rfl⟩
          rw [← HR.out]
          have hz := HBN.out
          clear ql qr fin
          grind
      case rest =>
        obtain ⟨rfl, rfl⟩ := hcut
        cases R with
        | true =>
          go_wp2
          go_ret
          exact ⟨ret_int (by rw [fin.out]; simp), hb0⟩
        | false =>
          have fin3 : Hid (mayLit l = if mayPlainTerm l.left ≠ 0 then mayPlainTerm l.left else mayPlainTerm l.right) := by
            have h := fin.out
            show _ = _
            simpa using h
          clear fin
          go_wp2_with (first | (go_at_call 68; (with_reducible refine (c_dTerm l.left _ hl).mono ?_); rintro e w1 ⟨rfl, hb⟩; have d6 := keep hb d6; have d7 := keep hb d7) | (go_at_call 68; (with_reducible refine (c_dTerm l.right _ hr).mono ?_); rintro e w2 ⟨rfl, hb2⟩))
          all_goals
            go_ret
            refine ⟨ret_int ?_, by first | exact ext_trans hb0 (ext_trans hb hb2) | exact ext_trans hb0 hb | exact hb0⟩
            rw [fin3.out]
            unfold mayPlainTerm
            grind
theorem c_dRule (r : Rule) (ah : Option Addr) (nh ch : Nat) (ab : Option Addr) (nb cb : Nat) (w : World) (hr : RuleV w r ah nh ch ab nb cb) :
    Calls Try.prog 43 #[.agg #[.string r.head.pred, .slice ah nh ch, .slice ab nb cb]] w fun e w' => e = .returned (.int .i64 (mayRule r)) ∧ Ext w w' := by
  have hn := hr.body.1
  have HL := Lib.hid hr.body.2.1
  have HR := Lib.hid hr
  clear hr
  obtain ⟨ba, ea⟩ : ∃ b, (mayAtom r.head true != 0) = b := ⟨_, rfl⟩
  obtain ⟨bl, el⟩ : ∃ b, decide ((64 : Int) < nb) = b := ⟨_, rfl⟩
  have fin : Hid (mayRule r = if ba = true then mayAtom r.head true else if bl = true then 82 else mayLits r.body) := by
    have hl := HL.out
    show _ = _
    unfold mayRule
    subst ea el
    simp only [bne_iff_ne, decide_eq_true_eq]
    grind
  cases ba with
  | true =>
    go_enter Try.func43, Try.ntmps43
    go_wp2_with (go_at_call 60; (with_reducible refine (c_dAtom r.head _ _ _ _ _ HR.out.pred (HR.out.terms.keep (ext_alloc (Below.refl _ _) _))).mono ?_); rintro e w1 ⟨rfl, hb⟩; have d1 : w1.cell? ⟨w.heap.size, 2, none⟩ = some (.slice ab nb cb) := keep hb (by go_simp))
    go_ret
    exact ⟨ret_int (by rw [fin.out]; simp), ext_after hb (ext_alloc (Below.refl _ _) _)⟩
  | false =>
    cases bl with
    | true =>
      go_enter Try.func43, Try.ntmps43
      go_wp2_with (go_at_call 60; (with_reducible refine (c_dAtom r.head _ _ _ _ _ HR.out.pred (HR.out.terms.keep (ext_alloc (Below.refl _ _) _))).mono ?_); rintro e w1 ⟨rfl, hb⟩; have d1 : w1.cell? ⟨w.heap.size, 2, none⟩ = some (.slice ab nb cb) := keep hb (by go_simp))
      go_ret
      exact ⟨ret_int (by rw [fin.out]; simp), ext_after hb (ext_alloc (Below.refl _ _) _)⟩
    | false =>
      go_enter Try.func43, Try.ntmps43
      go_wp2_with (go_at_call 60; (with_reducible refine (c_dAtom r.head _ _ _ _ _ HR.out.pred (HR.out.terms.keep (ext_alloc (Below.refl _ _) _))).mono ?_); rintro e w1 ⟨rfl, hb⟩; have d1 : w1.cell? ⟨w.heap.size, 2, none⟩ = some (.slice ab nb cb) := keep hb (by go_simp))
      have hb0 : Ext w w1 := ext_after hb (ext_alloc (Below.refl _ _) _)
      have HB := Lib.hid (HR.out.body.keep hb0)
      clear hb
      go_loopw [4] (fun i wr => RuleInv r.body nb w1 i wr) (fun i _ => nb - (intOf i).toNat)
      case atStart => exact ⟨0, by omega, rfl, Below.refl _ _, by simp⟩
      case round =>
        obtain ⟨k, hk, rfl, hb, hq⟩ := hrel
        have HQ := Lib.hid hq
        have z1 := keep hb d1
        clear hq
        by_cases hlt : k < nb
        · obtain ⟨l, bt_, off, hx, rfl, a, n, cap, h0, h1, h2, h3, h4, h5, h6, h7, ht, hcap, hp, hl, hr⟩ := (HB.out.keep hb).2.at hlt
          have HX := Lib.hid (drop_at hx)
          have hki : (k : Int) < (nb : Int) := by omega
          clear hx
          go_wp2_with (go_at_call 61; (with_reducible refine (c_dLit _ _ _ _ _ hp hl hr ht).mono ?_); rintro e w2 ⟨rfl, hb2⟩)
          · go_ret
            refine ⟨ret_int ?_, ext_trans hb0 (ext_trans hb hb2)⟩
            rw [fin.out, HQ.out, HX.out, mayLits]
            grind
          · go_roundw
            case rel => exact ⟨k + 1, by omega, by go_num, ext_trans hb hb2, by rw [HQ.out, HX.out, mayLits]; grind⟩
            case measure => simp [intOf]; omega
        · go_wp2
          go_ret
          refine ⟨ret_int ?_, ext_trans hb0 hb⟩
          rw [fin.out, HQ.out, List.drop_of_length_le (by have := HL.out; omega)]
          rfl
end Go.Proofs.Ytcphjfggjjonpaa
