/- The walks of the join's shaped, head, literal. -/
import Derived.Test.YtpgbenijjodoeaaGreatG16
import Derived.Test.YtpgbenijjodoeaaGreatG17
namespace Go.Proofs.YtpgbenijjodoeaaGreat
open Go.ChangeShapes Go.WideShapes Go.ChangeAt Go.RowKit
open K (Term Atom Rule TermsAt LitsAt RuleV termAt litAt)
abbrev termV (t : Term) : Value := .agg #[.int .i64 t.kind, .string t.text]
def oddT (t : Term) : Bool := decide (t.kind < 1) || decide (3 < t.kind)
theorem c_shaped1 (t : Term) (w : World) : Calls Tryz.prog 81 #[termV t] w fun e w' => e = .returned (.bool (oddT t)) ∧ Ext w w' := by
  obtain ⟨b1, e1⟩ : ∃ b, decide (t.kind < 1) = b := ⟨_, rfl⟩
  obtain ⟨b2, e2⟩ : ∃ b, decide (3 < t.kind) = b := ⟨_, rfl⟩
  have fin : Hid (oddT t = (b1 || b2)) := by
    show _ = _
    subst e1 e2
    rfl
  cases b1 <;> cases b2
  all_goals
    go_enter Tryz.func81, Tryz.ntmps81
    go_wp2
    go_ret
    refine ⟨ret_bool ?_, ext_alloc (Below.refl _ _) _⟩
    rw [fin.out]
    rfl
def aggT (t : Term) : Bool := decide (4 ≤ t.kind)
theorem c_facts1 (t : Term) (w : World) : Calls Tryz.prog 26 #[termV t] w fun e w' => e = .returned (.bool (aggT t)) ∧ Ext w w' := by
  go_enter Tryz.func26, Tryz.ntmps26
  go_wp2
  go_ret
  exact ⟨rfl, ext_alloc (Below.refl _ _) _⟩
def IdxPostF (b : Bool) (w : World) (e : Ending) (w' : World) : Prop := ∃ i : Int, e = .returned (.int .i64 i) ∧ decide (0 ≤ i) = b ∧ Ext w w'
def IdxInvF (p : Term → Bool) (ts : List Term) (n : Nat) (W : World) (i : Value) (wr : World) : Prop :=
  ∃ k : Nat, k ≤ n ∧ i = .int .i64 k ∧ Ext W wr ∧ ts.any p = (ts.drop k).any p
theorem c_idxOdd (ts : List Term) (a : Option Addr) (n cap : Nat) (w : World) (ht : TermsAt w a n ts) :
    Calls Tryz.prog 50 #[.slice a n cap, .func (.func 81) #[] #[]] w (IdxPostF (ts.any oddT) w) := by
  have hn := ht.1
  have HL := Lib.hid ht.2.1
  have HT := Lib.hid ht
  clear ht
  go_enter Tryz.func50, Tryz.ntmps50
  go_wp2
  go_loopw [8] (fun i wr => IdxInvF oddT ts n w i wr) (fun i _ => n - (intOf i).toNat)
  case atStart => exact ⟨0, by omega, rfl, Below.refl _ _, by simp⟩
  case round =>
    obtain ⟨k, hk, rfl, hb, hq⟩ := hrel
    have HQ := Lib.hid hq
    clear hq
    by_cases hlt : k < n
    · obtain ⟨t, bt, off, hx, rfl, hc1, hc2, hc3⟩ := (HT.out.keep hb).2.at hlt
      have HX := Lib.hid (drop_at hx)
      clear hx
      go_wp2_with (go_at_call 81; (with_reducible refine (c_shaped1 t _).mono ?_); rintro e w2 ⟨rfl, hb2⟩)
      · go_ret
        refine ⟨_, rfl, ?_, ext_trans hb hb2⟩
        rw [HQ.out, HX.out]
        simp_all
      · go_roundw
        case rel => exact ⟨k + 1, by omega, by go_num, ext_trans hb hb2, by rw [HQ.out, HX.out]; simp_all⟩
        case measure => simp [intOf]; omega
    · go_wp2
      go_ret
      refine ⟨_, rfl, ?_, hb⟩
      rw [HQ.out, List.drop_of_length_le (by have := HL.out; omega)]
      rfl
theorem c_contOdd (ts : List Term) (a : Option Addr) (n cap : Nat) (w : World) (ht : TermsAt w a n ts) :
    Calls Tryz.prog 25 #[.slice a n cap, .func (.func 81) #[] #[]] w fun e w' => e = .returned (.bool (ts.any oddT)) ∧ Ext w w' := by
  go_enter Tryz.func25, Tryz.ntmps25
  go_wp2_with (go_at_call 50; (with_reducible refine (c_idxOdd ts _ _ _ _ ht).mono ?_); rintro e w2 ⟨i, rfl, hi, hb2⟩)
  go_ret
  exact ⟨rfl, hb2⟩
theorem c_idxAgg (ts : List Term) (a : Option Addr) (n cap : Nat) (w : World) (ht : TermsAt w a n ts) :
    Calls Tryz.prog 50 #[.slice a n cap, .func (.func 26) #[] #[]] w (IdxPostF (ts.any aggT) w) := by
  have hn := ht.1
  have HL := Lib.hid ht.2.1
  have HT := Lib.hid ht
  clear ht
  go_enter Tryz.func50, Tryz.ntmps50
  go_wp2
  go_loopw [8] (fun i wr => IdxInvF aggT ts n w i wr) (fun i _ => n - (intOf i).toNat)
  case atStart => exact ⟨0, by omega, rfl, Below.refl _ _, by simp⟩
  case round =>
    obtain ⟨k, hk, rfl, hb, hq⟩ := hrel
    have HQ := Lib.hid hq
    clear hq
    by_cases hlt : k < n
    · obtain ⟨t, bt, off, hx, rfl, hc1, hc2, hc3⟩ := (HT.out.keep hb).2.at hlt
      have HX := Lib.hid (drop_at hx)
      clear hx
      go_wp2_with (go_at_call 26; (with_reducible refine (c_facts1 t _).mono ?_); rintro e w2 ⟨rfl, hb2⟩)
      · go_ret
        refine ⟨_, rfl, ?_, ext_trans hb hb2⟩
        rw [HQ.out, HX.out]
        simp_all
      · go_roundw
        case rel => exact ⟨k + 1, by omega, by go_num, ext_trans hb hb2, by rw [HQ.out, HX.out]; simp_all⟩
        case measure => simp [intOf]; omega
    · go_wp2
      go_ret
      refine ⟨_, rfl, ?_, hb⟩
      rw [HQ.out, List.drop_of_length_le (by have := HL.out; omega)]
      rfl
theorem c_contAgg (ts : List Term) (a : Option Addr) (n cap : Nat) (w : World) (ht : TermsAt w a n ts) :
    Calls Tryz.prog 25 #[.slice a n cap, .func (.func 26) #[] #[]] w fun e w' => e = .returned (.bool (ts.any aggT)) ∧ Ext w w' := by
  go_enter Tryz.func25, Tryz.ntmps25
  go_wp2_with (go_at_call 50; (with_reducible refine (c_idxAgg ts _ _ _ _ ht).mono ?_); rintro e w2 ⟨i, rfl, hi, hb2⟩)
  go_ret
  exact ⟨rfl, hb2⟩
def shapedL (ts : List Term) : Bool := !ts.any oddT
theorem c_shaped (ts : List Term) (a : Option Addr) (n cap : Nat) (w : World) (ht : TermsAt w a n ts) : Calls Tryz.prog 67 #[.slice a n cap] w fun e w' => e = .returned (.bool (shapedL ts)) ∧ Ext w w' := by
  go_enter Tryz.func67, Tryz.ntmps67
  go_wp2_with (go_at_call 25; (with_reducible refine (c_contOdd ts _ _ _ _ ht).mono ?_); rintro e w2 ⟨rfl, hb2⟩)
  go_ret
  exact ⟨rfl, hb2⟩
/-- How many of the first terms are aggregates; none is odd. -/
def aggsN (ts : List Term) : Nat := (ts.filter aggT).length
def oddH (t : Term) : Bool := decide (t.kind < 1) || decide (7 < t.kind)
def headOk (ts : List Term) : Bool := !ts.any oddH && (decide (aggsN ts < 2) && decide (ts.length ≤ 64))
theorem aggsN_snoc (ts : List Term) (t : Term) : aggsN (ts ++ [t]) = aggsN ts + (if aggT t = true then 1 else 0) := by
  unfold aggsN
  rw [List.filter_append, List.length_append]
  by_cases h : aggT t = true <;> simp [List.filter, h]
set_option maxRecDepth 100000 in
theorem c_head (ts : List Term) (a : Option Addr) (n cap : Nat) (w : World) (ht : TermsAt w a n ts) : Calls Tryz.prog 45 #[.slice a n cap] w fun e w' => e = .returned (.bool (headOk ts)) ∧ Ext w w' := by
  have HT := Lib.hid ht
  have HL := Lib.hid ht.2.1
  have hn := ht.1
  clear ht
  go_enter Tryz.func45, Tryz.ntmps45
  go_wp2
  go_loopw [3, 8] (fun v u wj => ∃ k : Nat, k ≤ n ∧ u = .int .i64 k ∧ v = .int .i64 ((aggsN (ts.take k) : Nat) : Int) ∧ aggsN (ts.take k) ≤ k ∧ (ts.take k).any oddH = false ∧ Ext w wj) (fun _ u _ => n - (intOf u).toNat)
  case atStart => exact ⟨0, by omega, rfl, rfl, by simp [aggsN], by simp, Below.refl _ _⟩
  case round =>
    obtain ⟨k, hk, rfl, rfl, hak, hq, hb⟩ := hrel
    have HQ := Lib.hid hq
    clear hq
    obtain ⟨g, hg⟩ : ∃ g, aggsN (ts.take k) = g := ⟨_, rfl⟩
    have HG := Lib.hid hg
    rw [hg] at hak ⊢
    clear hg
    by_cases hlt : k < n
    · have hki : (k : Int) < (n : Int) := by omega
      obtain ⟨t, bt, off, hx, rfl, hc1, hc2, hc3⟩ := (HT.out.keep hb).2.at hlt
      have HX := Lib.hid hx
      have HTK : Hid (ts.take (k + 1) = ts.take k ++ [t]) := take_at hx
      clear hx
      obtain ⟨b1, e1⟩ : ∃ b, decide (t.kind < 1) = b := ⟨_, rfl⟩
      obtain ⟨b2, e2⟩ : ∃ b, decide (7 < t.kind) = b := ⟨_, rfl⟩
      obtain ⟨b3, e3⟩ : ∃ b, decide (4 ≤ t.kind) = b := ⟨_, rfl⟩
      have HO : Hid (oddH t = (b1 || b2)) := by show _ = _; subst e1 e2; rfl
      have HA : Hid (aggT t = b3) := by show _ = _; exact e3
      have HB : Hid (Ext w wr) := hb
      cases b1
      · cases b2
        · cases b3
          all_goals
            go_wp2
            go_roundw
            case rel => exact ⟨k + 1, by omega, by go_num, by rw [HTK.out, aggsN_snoc, HA.out, HG.out]; first | rfl | (simp; go_num), by rw [HTK.out, aggsN_snoc, HA.out, HG.out]; simp; omega, by rw [HTK.out, List.any_append, HQ.out]; simp [HO.out], ext_alloc HB.out _⟩
            case measure => simp [intOf]; omega
        · go_wp2
          go_ret
          refine ⟨ret_bool ?_, ext_alloc HB.out _⟩
          have : ts.any oddH = true := List.any_eq_true.2 ⟨t, List.mem_of_getElem? HX.out, HO.out⟩
          simp [headOk, this]
      · go_wp2
        go_ret
        refine ⟨ret_bool ?_, ext_alloc HB.out _⟩
        have : ts.any oddH = true := List.any_eq_true.2 ⟨t, List.mem_of_getElem? HX.out, by rw [HO.out]; rfl⟩
        simp [headOk, this]
    · obtain rfl : k = n := by omega
      have hge : ¬ (k : Int) < (k : Int) := by omega
      have HALL : Hid (ts.take k = ts) := List.take_of_length_le (by have := HL.out; omega)
      obtain ⟨b1, e1⟩ : ∃ b, decide ((g : Int) < 2) = b := ⟨_, rfl⟩
      obtain ⟨b2, e2⟩ : ∃ b, decide ((k : Int) ≤ 64) = b := ⟨_, rfl⟩
      have fin : Hid (headOk ts = (b1 && b2)) := by
        show _ = _
        have h1 := HQ.out
        have h2 := HG.out
        have h3 := HL.out
        rw [HALL.out] at h1 h2
        unfold headOk
        have q1 : decide (g < 2) = b1 := by rw [← e1]; simp only [decide_eq_decide]; omega
        have q2 : decide (k ≤ 64) = b2 := by rw [← e2]; simp only [decide_eq_decide]; omega
        rw [h1, h2, h3, q1, q2]
        simp
      cases b1 <;> cases b2
      all_goals
        go_wp2
        go_ret
        exact ⟨ret_bool (by rw [fin.out]; rfl), hb⟩
def litOk (l : K.Lit) : Bool := if l.kind = 1 ∨ l.kind = 2 then decide (l.atom.terms.length ≤ 64) && shapedL l.atom.terms else if l.kind = 3 then (decide (1 ≤ l.op) && decide (l.op ≤ 4)) && shapedL [l.left, l.right] else false
abbrev litV (l : K.Lit) (a : Option Addr) (n cap : Nat) : Value := .agg #[.int .i64 l.kind, .string l.atom.pred, .slice a n cap, .int .i64 l.op, .int .i64 l.left.kind, .string l.left.text, .int .i64 l.right.kind, .string l.right.text]
set_option maxRecDepth 100000 in
theorem c_literal (l : K.Lit) (a : Option Addr) (n cap : Nat) (w : World) (ht : TermsAt w a n l.atom.terms) (hl : l.left.text.size ≤ maxLen) (hr : l.right.text.size ≤ maxLen) : Calls Tryz.prog 46 #[litV l a n cap] w fun e w' => e = .returned (.bool (litOk l)) ∧ Ext w w' := by
  have HT := Lib.hid ht
  have HL := Lib.hid ht.2.1
  have HLL := Lib.hid hl
  have HRL := Lib.hid hr
  have hn := ht.1
  clear ht hl hr
  obtain ⟨b1, e1⟩ : ∃ b, (l.kind == 1) = b := ⟨_, rfl⟩
  obtain ⟨b2, e2⟩ : ∃ b, (l.kind == 2) = b := ⟨_, rfl⟩
  obtain ⟨b3, e3⟩ : ∃ b, (l.kind == 3) = b := ⟨_, rfl⟩
  have K1 : Hid ((l.kind = 1) ↔ b1 = true) := by show _ ↔ _; rw [← e1]; simp
  have K2 : Hid ((l.kind = 2) ↔ b2 = true) := by show _ ↔ _; rw [← e2]; simp
  have K3 : Hid ((l.kind = 3) ↔ b3 = true) := by show _ ↔ _; rw [← e3]; simp
  have SH : Hid (∀ W, Ext w W → Calls Tryz.prog 67 #[.slice a n cap] W fun e w' => e = .returned (.bool (shapedL l.atom.terms)) ∧ Ext W w') := fun W hW => c_shaped l.atom.terms a n cap W (HT.out.keep hW)
  by_cases h12 : b1 = true ∨ b2 = true
  · obtain ⟨b4, e4⟩ : ∃ b, decide ((n : Int) ≤ 64) = b := ⟨_, rfl⟩
    have fin : Hid (litOk l = (b4 && shapedL l.atom.terms)) := by
      show _ = _
      have q : decide (l.atom.terms.length ≤ 64) = b4 := by rw [← e4, HL.out]; simp only [decide_eq_decide]; omega
      unfold litOk
      rw [if_pos (h12.imp K1.out.2 K2.out.2), q]
    have E1 : Hid (∀ o, Ext w (w.alloc o)) := fun o => ext_alloc (Below.refl _ _) o
    cases b1 <;> cases b2
    · exact absurd h12 (by simp)
    all_goals
      clear h12
      cases b4
      · go_enter Tryz.func46, Tryz.ntmps46
        go_wp2
        go_ret
        exact ⟨ret_bool (by rw [fin.out]; rfl), E1.out _⟩
      · go_enter Tryz.func46, Tryz.ntmps46
        go_wp2_with (go_at_call 67; (with_reducible refine (SH.out _ (E1.out _)).mono ?_); rintro e w2 ⟨rfl, hb2⟩)
        go_ret
        exact ⟨ret_bool (by rw [fin.out]; rfl), ext_trans (E1.out _) hb2⟩
  · obtain ⟨rfl, rfl⟩ : b1 = false ∧ b2 = false := by simpa using h12
    clear h12
    cases b3
    · have fin : Hid (litOk l = false) := by
        show _ = _
        unfold litOk
        rw [if_neg (fun h => by rcases h with h | h; exact absurd (K1.out.1 h) (by simp); exact absurd (K2.out.1 h) (by simp)), if_neg (fun h => absurd (K3.out.1 h) (by simp))]
      go_enter Tryz.func46, Tryz.ntmps46
      go_wp2
      go_ret
      exact ⟨ret_bool (by rw [fin.out]), ext_alloc (Below.refl _ _) _⟩
    · obtain ⟨b5, e5⟩ : ∃ b, decide (1 ≤ l.op) = b := ⟨_, rfl⟩
      obtain ⟨b6, e6⟩ : ∃ b, decide (l.op ≤ 4) = b := ⟨_, rfl⟩
      have fin : Hid (litOk l = ((b5 && b6) && shapedL [l.left, l.right])) := by
        show _ = _
        unfold litOk
        rw [if_neg (fun h => by rcases h with h | h; exact absurd (K1.out.1 h) (by simp); exact absurd (K2.out.1 h) (by simp)), if_pos (K3.out.2 rfl), e5, e6]
      have S2 : Hid (∀ o, Calls Tryz.prog 67 #[.slice (some ⟨w.heap.size + 1, 0, none⟩) 2 2] ((w.alloc o).alloc (.cells #[.int .i64 l.left.kind, .string l.left.text, .int .i64 l.right.kind, .string l.right.text] 53)) fun e w' => e = .returned (.bool (shapedL [l.left, l.right])) ∧ Ext ((w.alloc o).alloc (.cells #[.int .i64 l.left.kind, .string l.left.text, .int .i64 l.right.kind, .string l.right.text] 53)) w') := fun o => by
        have es : w.heap.size + 1 = (w.alloc o).heap.size := by simp
        rw [es]
        clear es
        refine c_shaped [l.left, l.right] _ 2 2 _ ⟨by omega, rfl, fun i x hx => ⟨(w.alloc o).heap.size, 0, rfl, ?_⟩⟩
        match i, hx with
        | 0, hx =>
          cases hx
          exact ⟨by go_simp, by go_simp, HLL.out⟩
        | 1, hx =>
          cases hx
          exact ⟨by go_simp, by go_simp, HRL.out⟩
      cases b5 <;> cases b6
      · go_enter Tryz.func46, Tryz.ntmps46
        go_wp2
        go_ret
        exact ⟨ret_bool (by rw [fin.out]; rfl), ext_alloc (Below.refl _ _) _⟩
      · go_enter Tryz.func46, Tryz.ntmps46
        go_wp2
        go_ret
        exact ⟨ret_bool (by rw [fin.out]; rfl), ext_alloc (Below.refl _ _) _⟩
      · go_enter Tryz.func46, Tryz.ntmps46
        go_wp2
        go_ret
        exact ⟨ret_bool (by rw [fin.out]; rfl), ext_alloc (Below.refl _ _) _⟩
      · go_enter Tryz.func46, Tryz.ntmps46
        go_wp2_with (go_at_call 67; (with_reducible refine (S2.out _).mono ?_); rintro e w2 ⟨rfl, hb2⟩)
        go_ret
        exact ⟨ret_bool (by rw [fin.out]; rfl), ext_trans (ext_alloc (ext_alloc (Below.refl _ _) _) _) hb2⟩
end Go.Proofs.YtpgbenijjodoeaaGreat
