/- The walk of the closure of lint.never: a positive literal of the same atom. IndexFunc and ContainsFunc at literals by lint's closures. Printed by mk_lnl.py. -/
import Derived.Test.YtlalgaioiapjmaaGreatDoorG25
namespace Go.Proofs.YtlalgaioiapjmaaGreatDoor
open Go.ChangeShapes Go.WideShapes Go.ChangeAt Go.RowKit
open K (Term Atom TermsAt)
set_option maxHeartbeats 4000000 in
theorem c_never1 (x l : K.Lit) (a a' : Option Addr) (n n' c c' lb : Nat) (w : World) (h1 : TermsAt w a n x.atom.terms) (h2 : TermsAt w a' n' l.atom.terms) (y1 : w.cell? ⟨lb, 1, none⟩ = some (.string l.atom.pred)) (y2 : w.cell? ⟨lb, 2, none⟩ = some (.slice a' n' c')) :
    Calls Tryz.prog 69 #[.agg #[.int .i64 x.kind, .string x.atom.pred, .slice a n c, .int .i64 x.op, .int .i64 x.left.kind, .string x.left.text, .int .i64 x.right.kind, .string x.right.text], .pointer (some ⟨lb, 0, none⟩)] w fun e w' => e = .returned (.bool (decide (x.kind = 1) && decide (x.atom = l.atom))) ∧ Ext w w' := by
  have CE : Hid (∀ W, Ext w W → Calls Tryz.prog 70 #[.agg #[.string x.atom.pred, .slice a n c], .agg #[.string l.atom.pred, .slice a' n' c']] W fun e w' => e = .returned (.bool (decide (x.atom = l.atom))) ∧ Ext W w') := fun W e => c_sameAtomL x.atom.pred l.atom.pred x.atom.terms l.atom.terms a a' n n' c c' W (h1.keep e) (h2.keep e)
  have y1o := fun o => keep (ext_alloc (Below.refl _ w) o) y1
  have y2o := fun o => keep (ext_alloc (Below.refl _ w) o) y2
  have EE : ∀ o : Obj, Ext w (w.alloc o) := fun o => ext_alloc (Below.refl _ _) _
  obtain ⟨b1, e1⟩ : ∃ b, (x.kind == 1) = b := ⟨_, rfl⟩
  have HB : Hid (decide (x.kind = 1) = b1) := by
    show _ = _
    rw [← e1]
    by_cases h : x.kind = 1 <;> simp [h]
  clear h1 h2 y1 y2
  go_enter Tryz.func69, Tryz.ntmps69
  cases b1 with
  | false =>
    go_wp2
    go_returns
    exact ⟨by rw [HB.out]; rfl, EE _⟩
  | true =>
    go_wp2_with (go_at_call 70; (with_reducible refine (CE.out _ (EE _)).mono ?_); rintro e w2 ⟨rfl, hE⟩)
    go_returns
    exact ⟨by rw [HB.out]; rfl, ext_after hE (EE _)⟩
end Go.Proofs.YtlalgaioiapjmaaGreatDoor
namespace Go.Proofs.YtlalgaioiapjmaaGreatDoor
open Go.ChangeShapes Go.WideShapes Go.ChangeAt Go.RowKit
open K (Term Atom TermsAt LitsAt)
/-- The place that IndexFunc answers. -/
def idxI (o : Option Nat) : Int := match o with | some i => (i : Int) | none => -1
theorem findIdx_at {α : Type} {l : List α} {q : α → Bool} {k : Nat} {x : α} (h : l[k]? = some x) (hx : q x = true) (hp : ∀ y ∈ l.take k, q y = false) : l.findIdx? q = some k := by
  induction l generalizing k with
  | nil => simp at h
  | cons a l ih =>
    cases k with
    | zero => simp at h; subst h; simp [List.findIdx?_cons, hx]
    | succ k =>
      have ha : q a = false := hp a (by simp)
      rw [List.findIdx?_cons, ha, ih (by simpa using h) (fun y hy => hp y (by simp [hy]))]
      rfl
theorem findIdx_no {α : Type} {l : List α} {q : α → Bool} (h : ∀ y ∈ l, q y = false) : l.findIdx? q = none := by
  rw [List.findIdx?_eq_none_iff]
  exact h
theorem idxI_any {α : Type} (l : List α) (q : α → Bool) : decide (0 ≤ idxI (l.findIdx? q)) = l.any q := by
  cases h : l.findIdx? q with
  | none =>
    rw [List.findIdx?_eq_none_iff] at h
    have : l.any q = false := by
      rw [List.any_eq_false]
      intro x hx
      simp [h x hx]
    rw [this]
    rfl
  | some i =>
    obtain ⟨hi, h1, _⟩ := List.findIdx?_eq_some_iff_getElem.1 h
    have : l.any q = true := List.any_eq_true.2 ⟨_, List.getElem_mem hi, h1⟩
    rw [this]
    simp [idxI]
set_option maxRecDepth 100000 in
set_option maxHeartbeats 4000000 in
theorem c_IxNev (q : K.Lit → Bool) (ls : List K.Lit) (a : Option Addr) (n cap : Nat) (p1 : Nat) (w : World) (hl : LitsAt w a n ls) (hq : ∀ l ∈ ls, ∀ (ta : Option Addr) (tn tc : Nat) (W : World), Ext w W → TermsAt W ta tn l.atom.terms → Calls Tryz.prog 69 #[.agg #[.int .i64 l.kind, .string l.atom.pred, .slice ta tn tc, .int .i64 l.op, .int .i64 l.left.kind, .string l.left.text, .int .i64 l.right.kind, .string l.right.text], .pointer (some ⟨p1, 0, none⟩)] W fun e w' => e = .returned (.bool (q l)) ∧ Ext W w') :
    Calls Tryz.prog 30 #[.slice a n cap, .func (.func 69) #[] #[.pointer (some ⟨p1, 0, none⟩)]] w fun e w' => e = .returned (.int .i64 (idxI (ls.findIdx? q))) ∧ Ext w w' := by
  have hn := hl.1
  have HL := Lib.hid hl.2.1
  have HT := Lib.hid hl
  have HQ := Lib.hid hq
  clear hl hq
  go_enter Tryz.func30, Tryz.ntmps30
  go_wp2
  go_loopw [8] (fun i wr => ∃ k : Nat, k ≤ n ∧ i = .int .i64 (k : Int) ∧ Ext w wr ∧ ∀ y ∈ ls.take k, q y = false) (fun i _ => n - (intOf i).toNat)
  case atStart => exact ⟨0, Nat.zero_le _, rfl, Below.refl _ _, by simp⟩
  case round =>
    obtain ⟨k, hk, rfl, hb, hp⟩ := hrel
    have HP := Lib.hid hp
    have HB := Lib.hid hb
    clear hp
    by_cases hlt : ¬ k < n
    · have hki : ¬ (k : Int) < (n : Int) := by omega
      have RES : Hid (idxI (ls.findIdx? q) = -1) := by
        show _ = _
        have h := HP.out
        rw [List.take_of_length_le (by have := HL.out; omega)] at h
        rw [findIdx_no h]
        rfl
      clear hb
      go_wp2
      go_returns
      exact ⟨by rw [RES.out]; rfl, HB.out⟩
    · have hlt : k < n := by omega
      have hki : (k : Int) < (n : Int) := by omega
      obtain ⟨l, b, off, ta, tn, tc, hlk, rfl, x0, x1, x2, x3, x4, x5, x6, x7, ht, _⟩ := lit_cells (HT.out.keep hb) hlt
      obtain ⟨t, htt⟩ : ∃ t, q l = t := ⟨_, rfl⟩
      have EE : ∀ o : Obj, Ext wr (wr.alloc o) := fun o => ext_alloc (Below.refl _ _) _
      have SL : Hid (∀ W, Ext wr W → Calls Tryz.prog 69 #[.agg #[.int .i64 l.kind, .string l.atom.pred, .slice ta tn tc, .int .i64 l.op, .int .i64 l.left.kind, .string l.left.text, .int .i64 l.right.kind, .string l.right.text], .pointer (some ⟨p1, 0, none⟩)] W fun e w' => e = .returned (.bool t) ∧ Ext W w') := fun W e => by
        rw [← htt]
        exact HQ.out l (List.mem_of_getElem? hlk) ta tn tc W (ext_trans hb e) (ht.keep e)
      have HLK := Lib.hid hlk
      have HTT := Lib.hid htt
      have HLT := Lib.hid hlt
      clear hb hlk htt ht
      cases t with
      | true =>
        have RES : Hid (idxI (ls.findIdx? q) = (k : Int)) := by
          show _ = _
          rw [findIdx_at HLK.out HTT.out HP.out]
          rfl
        go_wp2_with (go_at_call 69; (with_reducible refine (SL.out _ (by first | exact Below.refl _ _ | exact EE _)).mono ?_); rintro e w2 ⟨rfl, hE2⟩; have E2 := Lib.hid (ext_trans HB.out (ext_trans (by first | exact Below.refl _ _ | exact EE _) hE2)); clear hE2 EE)
        go_returns
        exact ⟨by rw [RES.out]; rfl, E2.out⟩
      | false =>
        go_wp2_with (go_at_call 69; (with_reducible refine (SL.out _ (by first | exact Below.refl _ _ | exact EE _)).mono ?_); rintro e w2 ⟨rfl, hE2⟩; have E2 := Lib.hid (ext_trans HB.out (ext_trans (by first | exact Below.refl _ _ | exact EE _) hE2)); clear hE2 EE)
        go_roundw
        case rel =>
          refine ⟨k + 1, HLT.out, by go_num, E2.out, ?_⟩
          rw [take_at HLK.out]
          intro y hy
          rcases List.mem_append.1 hy with h | h
          · exact HP.out y h
          · rw [List.mem_singleton.1 h]
            exact HTT.out
        case measure => have := HLT.out; simp [intOf]; omega
theorem c_CoNev (q : K.Lit → Bool) (ls : List K.Lit) (a : Option Addr) (n cap : Nat) (p1 : Nat) (w : World) (hl : LitsAt w a n ls) (hq : ∀ l ∈ ls, ∀ (ta : Option Addr) (tn tc : Nat) (W : World), Ext w W → TermsAt W ta tn l.atom.terms → Calls Tryz.prog 69 #[.agg #[.int .i64 l.kind, .string l.atom.pred, .slice ta tn tc, .int .i64 l.op, .int .i64 l.left.kind, .string l.left.text, .int .i64 l.right.kind, .string l.right.text], .pointer (some ⟨p1, 0, none⟩)] W fun e w' => e = .returned (.bool (q l)) ∧ Ext W w') :
    Calls Tryz.prog 37 #[.slice a n cap, .func (.func 69) #[] #[.pointer (some ⟨p1, 0, none⟩)]] w fun e w' => e = .returned (.bool (ls.any q)) ∧ Ext w w' := by
  obtain ⟨i, hi⟩ : ∃ i, idxI (ls.findIdx? q) = i := ⟨_, rfl⟩
  have CI := Lib.hid (c_IxNev q ls a n cap p1 w hl hq)
  rw [hi] at CI
  have RES : Hid (ls.any q = decide (0 ≤ i)) := by
    show _ = _
    rw [← hi, idxI_any]
  clear hi hl hq
  go_enter Tryz.func37, Tryz.ntmps37
  go_wp2_with (go_at_call 30; (with_reducible refine CI.out.mono ?_); rintro e w2 ⟨rfl, hb2⟩)
  go_ret
  exact ⟨by rw [RES.out]; rfl, hb2⟩
set_option maxRecDepth 100000 in
set_option maxHeartbeats 4000000 in
theorem c_IxBo1 (q : K.Lit → Bool) (ls : List K.Lit) (a : Option Addr) (n cap : Nat) (p1 : Nat) (w : World) (hl : LitsAt w a n ls) (hq : ∀ l ∈ ls, ∀ (ta : Option Addr) (tn tc : Nat) (W : World), Ext w W → TermsAt W ta tn l.atom.terms → Calls Tryz.prog 31 #[.agg #[.int .i64 l.kind, .string l.atom.pred, .slice ta tn tc, .int .i64 l.op, .int .i64 l.left.kind, .string l.left.text, .int .i64 l.right.kind, .string l.right.text], .pointer (some ⟨p1, 0, none⟩)] W fun e w' => e = .returned (.bool (q l)) ∧ Ext W w') :
    Calls Tryz.prog 30 #[.slice a n cap, .func (.func 31) #[] #[.pointer (some ⟨p1, 0, none⟩)]] w fun e w' => e = .returned (.int .i64 (idxI (ls.findIdx? q))) ∧ Ext w w' := by
  have hn := hl.1
  have HL := Lib.hid hl.2.1
  have HT := Lib.hid hl
  have HQ := Lib.hid hq
  clear hl hq
  go_enter Tryz.func30, Tryz.ntmps30
  go_wp2
  go_loopw [8] (fun i wr => ∃ k : Nat, k ≤ n ∧ i = .int .i64 (k : Int) ∧ Ext w wr ∧ ∀ y ∈ ls.take k, q y = false) (fun i _ => n - (intOf i).toNat)
  case atStart => exact ⟨0, Nat.zero_le _, rfl, Below.refl _ _, by simp⟩
  case round =>
    obtain ⟨k, hk, rfl, hb, hp⟩ := hrel
    have HP := Lib.hid hp
    have HB := Lib.hid hb
    clear hp
    by_cases hlt : ¬ k < n
    · have hki : ¬ (k : Int) < (n : Int) := by omega
      have RES : Hid (idxI (ls.findIdx? q) = -1) := by
        show _ = _
        have h := HP.out
        rw [List.take_of_length_le (by have := HL.out; omega)] at h
        rw [findIdx_no h]
        rfl
      clear hb
      go_wp2
      go_returns
      exact ⟨by rw [RES.out]; rfl, HB.out⟩
    · have hlt : k < n := by omega
      have hki : (k : Int) < (n : Int) := by omega
      obtain ⟨l, b, off, ta, tn, tc, hlk, rfl, x0, x1, x2, x3, x4, x5, x6, x7, ht, _⟩ := lit_cells (HT.out.keep hb) hlt
      obtain ⟨t, htt⟩ : ∃ t, q l = t := ⟨_, rfl⟩
      have EE : ∀ o : Obj, Ext wr (wr.alloc o) := fun o => ext_alloc (Below.refl _ _) _
      have SL : Hid (∀ W, Ext wr W → Calls Tryz.prog 31 #[.agg #[.int .i64 l.kind, .string l.atom.pred, .slice ta tn tc, .int .i64 l.op, .int .i64 l.left.kind, .string l.left.text, .int .i64 l.right.kind, .string l.right.text], .pointer (some ⟨p1, 0, none⟩)] W fun e w' => e = .returned (.bool t) ∧ Ext W w') := fun W e => by
        rw [← htt]
        exact HQ.out l (List.mem_of_getElem? hlk) ta tn tc W (ext_trans hb e) (ht.keep e)
      have HLK := Lib.hid hlk
      have HTT := Lib.hid htt
      have HLT := Lib.hid hlt
      clear hb hlk htt ht
      cases t with
      | true =>
        have RES : Hid (idxI (ls.findIdx? q) = (k : Int)) := by
          show _ = _
          rw [findIdx_at HLK.out HTT.out HP.out]
          rfl
        go_wp2_with (go_at_call 31; (with_reducible refine (SL.out _ (by first | exact Below.refl _ _ | exact EE _)).mono ?_); rintro e w2 ⟨rfl, hE2⟩; have E2 := Lib.hid (ext_trans HB.out (ext_trans (by first | exact Below.refl _ _ | exact EE _) hE2)); clear hE2 EE)
        go_returns
        exact ⟨by rw [RES.out]; rfl, E2.out⟩
      | false =>
        go_wp2_with (go_at_call 31; (with_reducible refine (SL.out _ (by first | exact Below.refl _ _ | exact EE _)).mono ?_); rintro e w2 ⟨rfl, hE2⟩; have E2 := Lib.hid (ext_trans HB.out (ext_trans (by first | exact Below.refl _ _ | exact EE _) hE2)); clear hE2 EE)
        go_roundw
        case rel =>
          refine ⟨k + 1, HLT.out, by go_num, E2.out, ?_⟩
          rw [take_at HLK.out]
          intro y hy
          rcases List.mem_append.1 hy with h | h
          · exact HP.out y h
          · rw [List.mem_singleton.1 h]
            exact HTT.out
        case measure => have := HLT.out; simp [intOf]; omega
set_option maxRecDepth 100000 in
set_option maxHeartbeats 4000000 in
theorem c_IxBo3 (q : K.Lit → Bool) (ls : List K.Lit) (a : Option Addr) (n cap : Nat) (p1 : Nat) (w : World) (hl : LitsAt w a n ls) (hq : ∀ l ∈ ls, ∀ (ta : Option Addr) (tn tc : Nat) (W : World), Ext w W → TermsAt W ta tn l.atom.terms → Calls Tryz.prog 38 #[.agg #[.int .i64 l.kind, .string l.atom.pred, .slice ta tn tc, .int .i64 l.op, .int .i64 l.left.kind, .string l.left.text, .int .i64 l.right.kind, .string l.right.text], .pointer (some ⟨p1, 0, none⟩)] W fun e w' => e = .returned (.bool (q l)) ∧ Ext W w') :
    Calls Tryz.prog 30 #[.slice a n cap, .func (.func 38) #[] #[.pointer (some ⟨p1, 0, none⟩)]] w fun e w' => e = .returned (.int .i64 (idxI (ls.findIdx? q))) ∧ Ext w w' := by
  have hn := hl.1
  have HL := Lib.hid hl.2.1
  have HT := Lib.hid hl
  have HQ := Lib.hid hq
  clear hl hq
  go_enter Tryz.func30, Tryz.ntmps30
  go_wp2
  go_loopw [8] (fun i wr => ∃ k : Nat, k ≤ n ∧ i = .int .i64 (k : Int) ∧ Ext w wr ∧ ∀ y ∈ ls.take k, q y = false) (fun i _ => n - (intOf i).toNat)
  case atStart => exact ⟨0, Nat.zero_le _, rfl, Below.refl _ _, by simp⟩
  case round =>
    obtain ⟨k, hk, rfl, hb, hp⟩ := hrel
    have HP := Lib.hid hp
    have HB := Lib.hid hb
    clear hp
    by_cases hlt : ¬ k < n
    · have hki : ¬ (k : Int) < (n : Int) := by omega
      have RES : Hid (idxI (ls.findIdx? q) = -1) := by
        show _ = _
        have h := HP.out
        rw [List.take_of_length_le (by have := HL.out; omega)] at h
        rw [findIdx_no h]
        rfl
      clear hb
      go_wp2
      go_returns
      exact ⟨by rw [RES.out]; rfl, HB.out⟩
    · have hlt : k < n := by omega
      have hki : (k : Int) < (n : Int) := by omega
      obtain ⟨l, b, off, ta, tn, tc, hlk, rfl, x0, x1, x2, x3, x4, x5, x6, x7, ht, _⟩ := lit_cells (HT.out.keep hb) hlt
      obtain ⟨t, htt⟩ : ∃ t, q l = t := ⟨_, rfl⟩
      have EE : ∀ o : Obj, Ext wr (wr.alloc o) := fun o => ext_alloc (Below.refl _ _) _
      have SL : Hid (∀ W, Ext wr W → Calls Tryz.prog 38 #[.agg #[.int .i64 l.kind, .string l.atom.pred, .slice ta tn tc, .int .i64 l.op, .int .i64 l.left.kind, .string l.left.text, .int .i64 l.right.kind, .string l.right.text], .pointer (some ⟨p1, 0, none⟩)] W fun e w' => e = .returned (.bool t) ∧ Ext W w') := fun W e => by
        rw [← htt]
        exact HQ.out l (List.mem_of_getElem? hlk) ta tn tc W (ext_trans hb e) (ht.keep e)
      have HLK := Lib.hid hlk
      have HTT := Lib.hid htt
      have HLT := Lib.hid hlt
      clear hb hlk htt ht
      cases t with
      | true =>
        have RES : Hid (idxI (ls.findIdx? q) = (k : Int)) := by
          show _ = _
          rw [findIdx_at HLK.out HTT.out HP.out]
          rfl
        go_wp2_with (go_at_call 38; (with_reducible refine (SL.out _ (by first | exact Below.refl _ _ | exact EE _)).mono ?_); rintro e w2 ⟨rfl, hE2⟩; have E2 := Lib.hid (ext_trans HB.out (ext_trans (by first | exact Below.refl _ _ | exact EE _) hE2)); clear hE2 EE)
        go_returns
        exact ⟨by rw [RES.out]; rfl, E2.out⟩
      | false =>
        go_wp2_with (go_at_call 38; (with_reducible refine (SL.out _ (by first | exact Below.refl _ _ | exact EE _)).mono ?_); rintro e w2 ⟨rfl, hE2⟩; have E2 := Lib.hid (ext_trans HB.out (ext_trans (by first | exact Below.refl _ _ | exact EE _) hE2)); clear hE2 EE)
        go_roundw
        case rel =>
          refine ⟨k + 1, HLT.out, by go_num, E2.out, ?_⟩
          rw [take_at HLK.out]
          intro y hy
          rcases List.mem_append.1 hy with h | h
          · exact HP.out y h
          · rw [List.mem_singleton.1 h]
            exact HTT.out
        case measure => have := HLT.out; simp [intOf]; omega
theorem c_CoBo3 (q : K.Lit → Bool) (ls : List K.Lit) (a : Option Addr) (n cap : Nat) (p1 : Nat) (w : World) (hl : LitsAt w a n ls) (hq : ∀ l ∈ ls, ∀ (ta : Option Addr) (tn tc : Nat) (W : World), Ext w W → TermsAt W ta tn l.atom.terms → Calls Tryz.prog 38 #[.agg #[.int .i64 l.kind, .string l.atom.pred, .slice ta tn tc, .int .i64 l.op, .int .i64 l.left.kind, .string l.left.text, .int .i64 l.right.kind, .string l.right.text], .pointer (some ⟨p1, 0, none⟩)] W fun e w' => e = .returned (.bool (q l)) ∧ Ext W w') :
    Calls Tryz.prog 37 #[.slice a n cap, .func (.func 38) #[] #[.pointer (some ⟨p1, 0, none⟩)]] w fun e w' => e = .returned (.bool (ls.any q)) ∧ Ext w w' := by
  obtain ⟨i, hi⟩ : ∃ i, idxI (ls.findIdx? q) = i := ⟨_, rfl⟩
  have CI := Lib.hid (c_IxBo3 q ls a n cap p1 w hl hq)
  rw [hi] at CI
  have RES : Hid (ls.any q = decide (0 ≤ i)) := by
    show _ = _
    rw [← hi, idxI_any]
  clear hi hl hq
  go_enter Tryz.func37, Tryz.ntmps37
  go_wp2_with (go_at_call 30; (with_reducible refine CI.out.mono ?_); rintro e w2 ⟨rfl, hb2⟩)
  go_ret
  exact ⟨by rw [RES.out]; rfl, hb2⟩
set_option maxRecDepth 100000 in
set_option maxHeartbeats 4000000 in
theorem c_IxOt3 (q : K.Lit → Bool) (ls : List K.Lit) (a : Option Addr) (n cap : Nat) (p1 : Nat) (w : World) (hl : LitsAt w a n ls) (hq : ∀ l ∈ ls, ∀ (ta : Option Addr) (tn tc : Nat) (W : World), Ext w W → TermsAt W ta tn l.atom.terms → Calls Tryz.prog 52 #[.agg #[.int .i64 l.kind, .string l.atom.pred, .slice ta tn tc, .int .i64 l.op, .int .i64 l.left.kind, .string l.left.text, .int .i64 l.right.kind, .string l.right.text], .pointer (some ⟨p1, 0, none⟩)] W fun e w' => e = .returned (.bool (q l)) ∧ Ext W w') :
    Calls Tryz.prog 30 #[.slice a n cap, .func (.func 52) #[] #[.pointer (some ⟨p1, 0, none⟩)]] w fun e w' => e = .returned (.int .i64 (idxI (ls.findIdx? q))) ∧ Ext w w' := by
  have hn := hl.1
  have HL := Lib.hid hl.2.1
  have HT := Lib.hid hl
  have HQ := Lib.hid hq
  clear hl hq
  go_enter Tryz.func30, Tryz.ntmps30
  go_wp2
  go_loopw [8] (fun i wr => ∃ k : Nat, k ≤ n ∧ i = .int .i64 (k : Int) ∧ Ext w wr ∧ ∀ y ∈ ls.take k, q y = false) (fun i _ => n - (intOf i).toNat)
  case atStart => exact ⟨0, Nat.zero_le _, rfl, Below.refl _ _, by simp⟩
  case round =>
    obtain ⟨k, hk, rfl, hb, hp⟩ := hrel
    have HP := Lib.hid hp
    have HB := Lib.hid hb
    clear hp
    by_cases hlt : ¬ k < n
    · have hki : ¬ (k : Int) < (n : Int) := by omega
      have RES : Hid (idxI (ls.findIdx? q) = -1) := by
        show _ = _
        have h := HP.out
        rw [List.take_of_length_le (by have := HL.out; omega)] at h
        rw [findIdx_no h]
        rfl
      clear hb
      go_wp2
      go_returns
      exact ⟨by rw [RES.out]; rfl, HB.out⟩
    · have hlt : k < n := by omega
      have hki : (k : Int) < (n : Int) := by omega
      obtain ⟨l, b, off, ta, tn, tc, hlk, rfl, x0, x1, x2, x3, x4, x5, x6, x7, ht, _⟩ := lit_cells (HT.out.keep hb) hlt
      obtain ⟨t, htt⟩ : ∃ t, q l = t := ⟨_, rfl⟩
      have EE : ∀ o : Obj, Ext wr (wr.alloc o) := fun o => ext_alloc (Below.refl _ _) _
      have SL : Hid (∀ W, Ext wr W → Calls Tryz.prog 52 #[.agg #[.int .i64 l.kind, .string l.atom.pred, .slice ta tn tc, .int .i64 l.op, .int .i64 l.left.kind, .string l.left.text, .int .i64 l.right.kind, .string l.right.text], .pointer (some ⟨p1, 0, none⟩)] W fun e w' => e = .returned (.bool t) ∧ Ext W w') := fun W e => by
        rw [← htt]
        exact HQ.out l (List.mem_of_getElem? hlk) ta tn tc W (ext_trans hb e) (ht.keep e)
      have HLK := Lib.hid hlk
      have HTT := Lib.hid htt
      have HLT := Lib.hid hlt
      clear hb hlk htt ht
      cases t with
      | true =>
        have RES : Hid (idxI (ls.findIdx? q) = (k : Int)) := by
          show _ = _
          rw [findIdx_at HLK.out HTT.out HP.out]
          rfl
        go_wp2_with (go_at_call 52; (with_reducible refine (SL.out _ (by first | exact Below.refl _ _ | exact EE _)).mono ?_); rintro e w2 ⟨rfl, hE2⟩; have E2 := Lib.hid (ext_trans HB.out (ext_trans (by first | exact Below.refl _ _ | exact EE _) hE2)); clear hE2 EE)
        go_returns
        exact ⟨by rw [RES.out]; rfl, E2.out⟩
      | false =>
        go_wp2_with (go_at_call 52; (with_reducible refine (SL.out _ (by first | exact Below.refl _ _ | exact EE _)).mono ?_); rintro e w2 ⟨rfl, hE2⟩; have E2 := Lib.hid (ext_trans HB.out (ext_trans (by first | exact Below.refl _ _ | exact EE _) hE2)); clear hE2 EE)
        go_roundw
        case rel =>
          refine ⟨k + 1, HLT.out, by go_num, E2.out, ?_⟩
          rw [take_at HLK.out]
          intro y hy
          rcases List.mem_append.1 hy with h | h
          · exact HP.out y h
          · rw [List.mem_singleton.1 h]
            exact HTT.out
        case measure => have := HLT.out; simp [intOf]; omega
end Go.Proofs.YtlalgaioiapjmaaGreatDoor
