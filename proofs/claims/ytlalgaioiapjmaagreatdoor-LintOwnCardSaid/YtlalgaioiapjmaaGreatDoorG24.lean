/- The walks of slices.Equal at terms and of the two sameAtoms. The walks of print.sameLiteral and lint.same: are two literals one? The walks of cmp.Compare at texts and of lint.sure. An array of five Booleans is indexed. -/
import Derived.Test.YtlalgaioiapjmaaGreatDoorG4
import Derived.Test.YtlalgaioiapjmaaGreatDoorG5
import Derived.Test.YtlalgaioiapjmaaGreatDoorG23
namespace Go.Proofs.YtlalgaioiapjmaaGreatDoor
open Go.ChangeShapes Go.WideShapes Go.ChangeAt Go.RowKit
open K (Term Atom TermsAt termEq termEq_iff)
theorem toListB (p q : ByteArray) : (p.toList == q.toList) = decide (p = q) := by
  by_cases h : p = q
  · subst h; simp
  · have : ¬ p.toList = q.toList := fun e => h (by
      have h1 := (toList_eq_iff p q.toList).1 e
      have h2 := (toList_eq_iff q q.toList).1 rfl
      rw [h1, ← h2])
    simp [h, this]
set_option maxRecDepth 100000 in
set_option maxHeartbeats 4000000 in
theorem c_eqTerms (ts us : List Term) (a a' : Option Addr) (n n' c c' : Nat) (w : World) (h1 : TermsAt w a n ts) (h2 : TermsAt w a' n' us) :
    Calls Tryz.prog 103 #[.slice a n c, .slice a' n' c'] w fun e w' => e = .returned (.bool (decide (ts = us))) ∧ Ext w w' := by
  obtain rfl : ts.length = n := h1.2.1
  obtain rfl : us.length = n' := h2.2.1
  have hn1 := h1.1
  have hn2 := h2.1
  have H1 := Lib.hid h1
  have H2 := Lib.hid h2
  clear h1 h2
  by_cases hl : ts.length = us.length
  · have q1 : ((ts.length : Int) == (us.length : Int)) = true := by rw [hl]; simp
    have HL := Lib.hid hl
    clear hl
    have NQ := K.neq_term
    go_enter Tryz.func103, Tryz.ntmps103
    go_wp2
    go_loopw [13] (fun v wr => ∃ k : Nat, k ≤ ts.length ∧ v = .int .i64 (k : Int) ∧ ts.take k = us.take k ∧ Ext w wr) (fun v _ => ts.length - (intOf v).toNat)
    case atStart => exact ⟨0, Nat.zero_le _, rfl, by simp, Below.refl _ _⟩
    case round =>
      obtain ⟨k, hk, rfl, hq, hE⟩ := hrel
      have HQ := Lib.hid hq
      have HE := Lib.hid hE
      by_cases hlt : ¬ k < ts.length
      · have hki : ¬ (k : Int) < (ts.length : Int) := by omega
        have HR : Hid (decide (ts = us) = true) := by
          show _ = _
          have h0 := HL.out
          rw [List.take_of_length_le (by omega), List.take_of_length_le (by omega)] at hq
          simp [hq]
        clear hq hE
        go_wp2
        go_returns
        exact ⟨by rw [HR.out]; rfl, HE.out⟩
      · have hlt : k < ts.length := by omega
        have hki : (k : Int) < (ts.length : Int) := by omega
        have hlt2 : k < us.length := by have := HL.out; omega
        have hki2 : (k : Int) < (us.length : Int) := by omega
        obtain ⟨t, tb, toff, htk, rfl, x0, x1, _⟩ := (H1.out.keep hE).2.at hlt
        obtain ⟨u, ub, uoff, huk, rfl, y0, y1, _⟩ := (H2.out.keep hE).2.at hlt2
        obtain ⟨q, hqq⟩ : ∃ q, termEq t.kind t.text u.kind u.text = q := ⟨_, rfl⟩
        have HTU : Hid (decide (t = u) = q) := by show _ = _; rw [← hqq, termEq_iff]
        have NQ2 : ∀ W, (binOp .neq 42 (.agg #[.int .i64 t.kind, .string t.text]) (.agg #[.int .i64 u.kind, .string u.text])).run Tryz.prog W = .ok (.bool (!q)) W := fun W => by rw [← hqq]; exact NQ _ _ _ _ W
        have HTK := Lib.hid htk
        have HUK := Lib.hid huk
        have hltH := Lib.hid hlt
        clear hq hE htk huk hqq NQ
        cases q with
        | true =>
          go_wp2
          go_quiet (fail)
          go_wp2
          go_roundw
          case rel =>
            refine ⟨k + 1, by have := hltH.out; omega, by go_num, ?_, ext_drewN HE.out _⟩
            rw [take_at HTK.out, take_at HUK.out, HQ.out, of_decide_eq_true HTU.out]
          case measure => have := hltH.out; simp [intOf]; omega
        | false =>
          have HR : Hid (decide (ts = us) = false) := by
            show _ = _
            refine decide_eq_false (fun e => ?_)
            have h1 := HTK.out
            have h2 := HUK.out
            rw [e, h2] at h1
            cases h1
            exact absurd rfl (of_decide_eq_false HTU.out)
          go_wp2
          go_quiet (fail)
          go_wp2
          go_returns
          exact ⟨by rw [HR.out]; rfl, ext_drewN HE.out _⟩
  · have q1 : ((ts.length : Int) == (us.length : Int)) = false := by
      rw [beq_eq_false_iff_ne]
      omega
    have HR : Hid (decide (ts = us) = false) := decide_eq_false (fun e => hl (by rw [e]))
    clear hl
    go_enter Tryz.func103, Tryz.ntmps103
    go_wp2
    go_returns
    exact ⟨by rw [HR.out]; rfl, Below.refl _ _⟩
set_option maxHeartbeats 4000000 in
theorem c_sameAtomP (p q : ByteArray) (ts us : List Term) (a a' : Option Addr) (n n' c c' : Nat) (w : World) (h1 : TermsAt w a n ts) (h2 : TermsAt w a' n' us) :
    Calls Tryz.prog 79 #[.agg #[.string p, .slice a n c], .agg #[.string q, .slice a' n' c']] w fun e w' => e = .returned (.bool (decide ((⟨p, ts⟩ : Atom) = ⟨q, us⟩))) ∧ Ext w w' := by
  have CE : Hid (∀ W, Ext w W → Calls Tryz.prog 103 #[.slice a n c, .slice a' n' c'] W fun e w' => e = .returned (.bool (decide (ts = us))) ∧ Ext W w') := fun W e => c_eqTerms ts us a a' n n' c c' W (h1.keep e) (h2.keep e)
  clear h1 h2
  obtain ⟨x, hx⟩ : ∃ x, (p.toList == q.toList) = x := ⟨_, rfl⟩
  have HD : Hid (decide ((⟨p, ts⟩ : Atom) = ⟨q, us⟩) = (x && decide (ts = us))) := by
    show _ = _
    rw [← hx]
    rw [toListB]
    by_cases h : p = q <;> by_cases h' : ts = us <;> simp [h, h']
  go_enter Tryz.func79, Tryz.ntmps79
  cases x with
  | true =>
    go_wp2_with (go_at_call 103; (with_reducible refine (CE.out _ (ext_alloc (ext_alloc (Below.refl _ _) _) _)).mono ?_); rintro e w2 ⟨rfl, hE⟩)
    go_returns
    exact ⟨by rw [HD.out, Bool.true_and]; rfl, ext_after hE (ext_alloc (ext_alloc (Below.refl _ _) _) _)⟩
  | false =>
    go_wp2
    go_returns
    exact ⟨by rw [HD.out, Bool.false_and]; rfl, ext_alloc (ext_alloc (Below.refl _ _) _) _⟩
set_option maxHeartbeats 4000000 in
theorem c_sameAtomL (p q : ByteArray) (ts us : List Term) (a a' : Option Addr) (n n' c c' : Nat) (w : World) (h1 : TermsAt w a n ts) (h2 : TermsAt w a' n' us) :
    Calls Tryz.prog 70 #[.agg #[.string p, .slice a n c], .agg #[.string q, .slice a' n' c']] w fun e w' => e = .returned (.bool (decide ((⟨p, ts⟩ : Atom) = ⟨q, us⟩))) ∧ Ext w w' := by
  have CE : Hid (∀ W, Ext w W → Calls Tryz.prog 103 #[.slice a n c, .slice a' n' c'] W fun e w' => e = .returned (.bool (decide (ts = us))) ∧ Ext W w') := fun W e => c_eqTerms ts us a a' n n' c c' W (h1.keep e) (h2.keep e)
  clear h1 h2
  obtain ⟨x, hx⟩ : ∃ x, (p.toList == q.toList) = x := ⟨_, rfl⟩
  have HD : Hid (decide ((⟨p, ts⟩ : Atom) = ⟨q, us⟩) = (x && decide (ts = us))) := by
    show _ = _
    rw [← hx]
    rw [toListB]
    by_cases h : p = q <;> by_cases h' : ts = us <;> simp [h, h']
  go_enter Tryz.func70, Tryz.ntmps70
  cases x with
  | true =>
    go_wp2_with (go_at_call 103; (with_reducible refine (CE.out _ (ext_alloc (ext_alloc (Below.refl _ _) _) _)).mono ?_); rintro e w2 ⟨rfl, hE⟩)
    go_returns
    exact ⟨by rw [HD.out, Bool.true_and]; rfl, ext_after hE (ext_alloc (ext_alloc (Below.refl _ _) _) _)⟩
  | false =>
    go_wp2
    go_returns
    exact ⟨by rw [HD.out, Bool.false_and]; rfl, ext_alloc (ext_alloc (Below.refl _ _) _) _⟩
end Go.Proofs.YtlalgaioiapjmaaGreatDoor
namespace Go.Proofs.YtlalgaioiapjmaaGreatDoor
open Go.ChangeShapes Go.WideShapes Go.ChangeAt Go.RowKit
open K (Term Atom TermsAt termEq termEq_iff)
theorem lit_eq (l k : K.Lit) : decide (l = k) = ((l.kind == k.kind) && ((l.op == k.op) && (termEq l.left.kind l.left.text k.left.kind k.left.text && (termEq l.right.kind l.right.text k.right.kind k.right.text && decide (l.atom = k.atom))))) := by
  obtain ⟨k1, a1, o1, l1, r1⟩ := l
  obtain ⟨k2, a2, o2, l2, r2⟩ := k
  simp only [termEq_iff]
  by_cases h1 : k1 = k2 <;> by_cases h2 : a1 = a2 <;> by_cases h3 : o1 = o2 <;> by_cases h4 : l1 = l2 <;> by_cases h5 : r1 = r2 <;> simp [h1, h2, h3, h4, h5]
set_option maxRecDepth 100000 in
set_option maxHeartbeats 4000000 in
theorem c_sameLitP (l k : K.Lit) (a a' : Option Addr) (n n' c c' : Nat) (w : World) (h1 : TermsAt w a n l.atom.terms) (h2 : TermsAt w a' n' k.atom.terms) :
    Calls Tryz.prog 81 #[.agg #[.int .i64 l.kind, .string l.atom.pred, .slice a n c, .int .i64 l.op, .int .i64 l.left.kind, .string l.left.text, .int .i64 l.right.kind, .string l.right.text], .agg #[.int .i64 k.kind, .string k.atom.pred, .slice a' n' c', .int .i64 k.op, .int .i64 k.left.kind, .string k.left.text, .int .i64 k.right.kind, .string k.right.text]] w fun e w' => e = .returned (.bool (decide (l = k))) ∧ Ext w w' := by
  have CE : Hid (∀ W, Ext w W → Calls Tryz.prog 79 #[.agg #[.string l.atom.pred, .slice a n c], .agg #[.string k.atom.pred, .slice a' n' c']] W fun e w' => e = .returned (.bool (decide (l.atom = k.atom))) ∧ Ext W w') := fun W e => c_sameAtomP l.atom.pred k.atom.pred l.atom.terms k.atom.terms a a' n n' c c' W (h1.keep e) (h2.keep e)
  clear h1 h2
  have HD := Lib.hid (lit_eq l k)
  obtain ⟨b1, e1⟩ : ∃ b, (l.kind == k.kind) = b := ⟨_, rfl⟩
  obtain ⟨b2, e2⟩ : ∃ b, (l.op == k.op) = b := ⟨_, rfl⟩
  obtain ⟨b3, e3⟩ : ∃ b, termEq l.left.kind l.left.text k.left.kind k.left.text = b := ⟨_, rfl⟩
  obtain ⟨b4, e4⟩ : ∃ b, termEq l.right.kind l.right.text k.right.kind k.right.text = b := ⟨_, rfl⟩
  have t3 : ∀ W, (binOp .eql 42 (.agg #[.int .i64 l.left.kind, .string l.left.text]) (.agg #[.int .i64 k.left.kind, .string k.left.text])).run Tryz.prog W = .ok (.bool b3) W := fun W => by rw [← e3]; exact K.eql_term _ _ _ _ W
  have t4 : ∀ W, (binOp .eql 42 (.agg #[.int .i64 l.right.kind, .string l.right.text]) (.agg #[.int .i64 k.right.kind, .string k.right.text])).run Tryz.prog W = .ok (.bool b4) W := fun W => by rw [← e4]; exact K.eql_term _ _ _ _ W
  rw [e1, e2, e3, e4] at HD
  clear e3 e4
  have EE : ∀ o1 o2 : Obj, Ext w ((w.alloc o1).alloc o2) := fun o1 o2 => ext_alloc (ext_alloc (Below.refl _ _) _) _
  go_enter Tryz.func81, Tryz.ntmps81
  cases b1 with
  | false =>
    go_wp2
    go_returns
    exact ⟨by rw [HD.out]; rfl, EE _ _⟩
  | true =>
    cases b2 with
    | false =>
      go_wp2
      go_returns
      exact ⟨by rw [HD.out]; rfl, EE _ _⟩
    | true =>
      cases b3 with
      | false =>
        go_wp2
        go_returns
        exact ⟨by rw [HD.out]; rfl, EE _ _⟩
      | true =>
        cases b4 with
        | false =>
          go_wp2
          go_returns
          exact ⟨by rw [HD.out]; rfl, EE _ _⟩
        | true =>
          go_wp2_with (go_at_call 79; (with_reducible refine (CE.out _ (EE _ _)).mono ?_); rintro e w2 ⟨rfl, hE⟩)
          go_returns
          exact ⟨by rw [HD.out]; rfl, ext_after hE (EE _ _)⟩
set_option maxRecDepth 100000 in
set_option maxHeartbeats 4000000 in
theorem c_sameLitL (l k : K.Lit) (a a' : Option Addr) (n n' c c' : Nat) (w : World) (h1 : TermsAt w a n l.atom.terms) (h2 : TermsAt w a' n' k.atom.terms) :
    Calls Tryz.prog 39 #[.agg #[.int .i64 l.kind, .string l.atom.pred, .slice a n c, .int .i64 l.op, .int .i64 l.left.kind, .string l.left.text, .int .i64 l.right.kind, .string l.right.text], .agg #[.int .i64 k.kind, .string k.atom.pred, .slice a' n' c', .int .i64 k.op, .int .i64 k.left.kind, .string k.left.text, .int .i64 k.right.kind, .string k.right.text]] w fun e w' => e = .returned (.bool (decide (l = k))) ∧ Ext w w' := by
  have CE : Hid (∀ W, Ext w W → Calls Tryz.prog 70 #[.agg #[.string l.atom.pred, .slice a n c], .agg #[.string k.atom.pred, .slice a' n' c']] W fun e w' => e = .returned (.bool (decide (l.atom = k.atom))) ∧ Ext W w') := fun W e => c_sameAtomL l.atom.pred k.atom.pred l.atom.terms k.atom.terms a a' n n' c c' W (h1.keep e) (h2.keep e)
  clear h1 h2
  have HD := Lib.hid (lit_eq l k)
  obtain ⟨b1, e1⟩ : ∃ b, (l.kind == k.kind) = b := ⟨_, rfl⟩
  obtain ⟨b2, e2⟩ : ∃ b, (l.op == k.op) = b := ⟨_, rfl⟩
  obtain ⟨b3, e3⟩ : ∃ b, termEq l.left.kind l.left.text k.left.kind k.left.text = b := ⟨_, rfl⟩
  obtain ⟨b4, e4⟩ : ∃ b, termEq l.right.kind l.right.text k.right.kind k.right.text = b := ⟨_, rfl⟩
  have t3 : ∀ W, (binOp .eql 42 (.agg #[.int .i64 l.left.kind, .string l.left.text]) (.agg #[.int .i64 k.left.kind, .string k.left.text])).run Tryz.prog W = .ok (.bool b3) W := fun W => by rw [← e3]; exact K.eql_term _ _ _ _ W
  have t4 : ∀ W, (binOp .eql 42 (.agg #[.int .i64 l.right.kind, .string l.right.text]) (.agg #[.int .i64 k.right.kind, .string k.right.text])).run Tryz.prog W = .ok (.bool b4) W := fun W => by rw [← e4]; exact K.eql_term _ _ _ _ W
  rw [e1, e2, e3, e4] at HD
  clear e3 e4
  have EE : ∀ o1 o2 : Obj, Ext w ((w.alloc o1).alloc o2) := fun o1 o2 => ext_alloc (ext_alloc (Below.refl _ _) _) _
  go_enter Tryz.func39, Tryz.ntmps39
  cases b1 with
  | false =>
    go_wp2
    go_returns
    exact ⟨by rw [HD.out]; rfl, EE _ _⟩
  | true =>
    cases b2 with
    | false =>
      go_wp2
      go_returns
      exact ⟨by rw [HD.out]; rfl, EE _ _⟩
    | true =>
      cases b3 with
      | false =>
        go_wp2
        go_returns
        exact ⟨by rw [HD.out]; rfl, EE _ _⟩
      | true =>
        cases b4 with
        | false =>
          go_wp2
          go_returns
          exact ⟨by rw [HD.out]; rfl, EE _ _⟩
        | true =>
          go_wp2_with (go_at_call 70; (with_reducible refine (CE.out _ (EE _ _)).mono ?_); rintro e w2 ⟨rfl, hE⟩)
          go_returns
          exact ⟨by rw [HD.out]; rfl, ext_after hE (EE _ _)⟩
/-- A literal as it lies, with its terms. -/
theorem lit_cells {w : World} {ab : Option Addr} {nb : Nat} {ls : List K.Lit} (h : K.LitsAt w ab nb ls) {k : Nat} (hk : k < nb) : ∃ l b off a n c, ls[k]? = some l ∧ ab = some ⟨b, off, none⟩ ∧ w.cell? ⟨b, off + k * 8, none⟩ = some (.int .i64 l.kind) ∧ w.cell? ⟨b, off + k * 8 + 1, none⟩ = some (.string l.atom.pred) ∧ w.cell? ⟨b, off + k * 8 + 2, none⟩ = some (.slice a n c) ∧ w.cell? ⟨b, off + k * 8 + 3, none⟩ = some (.int .i64 l.op) ∧ w.cell? ⟨b, off + k * 8 + 4, none⟩ = some (.int .i64 l.left.kind) ∧ w.cell? ⟨b, off + k * 8 + 5, none⟩ = some (.string l.left.text) ∧ w.cell? ⟨b, off + k * 8 + 6, none⟩ = some (.int .i64 l.right.kind) ∧ w.cell? ⟨b, off + k * 8 + 7, none⟩ = some (.string l.right.text) ∧ TermsAt w a n l.atom.terms ∧ capOk a n c := by
  obtain ⟨l, b, off, hx, rfl, a, n, c, c0, c1, c2, c3, c4, c5, c6, c7, ht, hc, _⟩ := h.2.at hk
  exact ⟨l, b, off, a, n, c, hx, rfl, c0, c1, c2, c3, c4, c5, c6, c7, ht, hc⟩
set_option maxRecDepth 100000 in
set_option maxHeartbeats 4000000 in
theorem c_eqLits (ls ks : List K.Lit) (a a' : Option Addr) (n n' c c' : Nat) (w : World) (h1 : K.LitsAt w a n ls) (h2 : K.LitsAt w a' n' ks) :
    Calls Tryz.prog 80 #[.slice a n c, .slice a' n' c', .func (.func 81) #[] #[]] w fun e w' => e = .returned (.bool (decide (ls = ks))) ∧ Ext w w' := by
  obtain rfl : ls.length = n := h1.2.1
  obtain rfl : ks.length = n' := h2.2.1
  have hn1 := h1.1
  have hn2 := h2.1
  have H1 := Lib.hid h1
  have H2 := Lib.hid h2
  clear h1 h2
  by_cases hl : ls.length = ks.length
  · have HL := Lib.hid hl
    rw [← hl]
    clear hl
    go_enter Tryz.func80, Tryz.ntmps80
    go_wp2
    go_loopw [17] (fun v wr => ∃ k : Nat, k ≤ ls.length ∧ v = .int .i64 (k : Int) ∧ ls.take k = ks.take k ∧ Ext w wr) (fun v _ => ls.length - (intOf v).toNat)
    case atStart => exact ⟨0, Nat.zero_le _, rfl, by simp, Below.refl _ _⟩
    case round =>
      obtain ⟨k, hk, rfl, hq, hE⟩ := hrel
      have HQ := Lib.hid hq
      have HE := Lib.hid hE
      by_cases hlt : ¬ k < ls.length
      · have hki : ¬ (k : Int) < (ls.length : Int) := by omega
        have HR : Hid (decide (ls = ks) = true) := by
          show _ = _
          have h0 := HL.out
          rw [List.take_of_length_le (by omega), List.take_of_length_le (by omega)] at hq
          simp [hq]
        clear hq hE
        go_wp2
        go_returns
        exact ⟨by rw [HR.out]; rfl, HE.out⟩
      · have hlt : k < ls.length := by omega
        have hki : (k : Int) < (ls.length : Int) := by omega
        have hlt2 : k < ks.length := by have := HL.out; omega
        obtain ⟨l, b, off, ta, tn, tc, hlk, rfl, x0, x1, x2, x3, x4, x5, x6, x7, ht, _⟩ := lit_cells (H1.out.keep hE) hlt
        obtain ⟨m, b', off', ta', tn', tc', hmk, rfl, y0, y1, y2, y3, y4, y5, y6, y7, ht', _⟩ := lit_cells (H2.out.keep hE) hlt2
        obtain ⟨q, hqq⟩ : ∃ q, decide (l = m) = q := ⟨_, rfl⟩
        have SL : Hid (∀ W, Ext wr W → Calls Tryz.prog 81 #[.agg #[.int .i64 l.kind, .string l.atom.pred, .slice ta tn tc, .int .i64 l.op, .int .i64 l.left.kind, .string l.left.text, .int .i64 l.right.kind, .string l.right.text], .agg #[.int .i64 m.kind, .string m.atom.pred, .slice ta' tn' tc', .int .i64 m.op, .int .i64 m.left.kind, .string m.left.text, .int .i64 m.right.kind, .string m.right.text]] W fun e w' => e = .returned (.bool q) ∧ Ext W w') := fun W e => by
          rw [← hqq]
          exact c_sameLitP l m ta ta' tn tn' tc tc' W (ht.keep e) (ht'.keep e)
        have EE : ∀ o1 o2 : Obj, Ext wr ((wr.alloc o1).alloc o2) := fun o1 o2 => ext_alloc (ext_alloc (Below.refl _ _) _) _
        have y0 := fun o => keep (ext_alloc (Below.refl _ wr) o) y0
        have y1 := fun o => keep (ext_alloc (Below.refl _ wr) o) y1
        have y2 := fun o => keep (ext_alloc (Below.refl _ wr) o) y2
        have y3 := fun o => keep (ext_alloc (Below.refl _ wr) o) y3
        have y4 := fun o => keep (ext_alloc (Below.refl _ wr) o) y4
        have y5 := fun o => keep (ext_alloc (Below.refl _ wr) o) y5
        have y6 := fun o => keep (ext_alloc (Below.refl _ wr) o) y6
        have y7 := fun o => keep (ext_alloc (Below.refl _ wr) o) y7
        have HLK := Lib.hid hlk
        have HMK := Lib.hid hmk
        have HQQ := Lib.hid hqq
        have hltH := Lib.hid hlt
        clear hq hE hlk hmk hqq ht ht'
        cases q with
        | true =>
          go_wp2_with (go_at_call 81; (with_reducible refine (SL.out _ (EE _ _)).mono ?_); rintro e w2 ⟨rfl, hE2⟩; have E2 := Lib.hid (ext_trans HE.out (ext_trans (EE _ _) hE2)); clear hE2 EE)
          go_roundw
          case rel =>
            refine ⟨k + 1, by have := hltH.out; omega, by go_num, ?_, E2.out⟩
            rw [take_at HLK.out, take_at HMK.out, HQ.out, of_decide_eq_true HQQ.out]
          case measure => have := hltH.out; simp [intOf]; omega
        | false =>
          have HR : Hid (decide (ls = ks) = false) := by
            show _ = _
            refine decide_eq_false (fun e => ?_)
            have h1 := HLK.out
            have h2 := HMK.out
            rw [e, h2] at h1
            cases h1
            exact absurd rfl (of_decide_eq_false HQQ.out)
          go_wp2_with (go_at_call 81; (with_reducible refine (SL.out _ (EE _ _)).mono ?_); rintro e w2 ⟨rfl, hE2⟩)
          go_returns
          exact ⟨by rw [HR.out]; rfl, ext_trans HE.out (ext_trans (EE _ _) hE2)⟩
  · have q1 : ((ls.length : Int) == (ks.length : Int)) = false := by
      rw [beq_eq_false_iff_ne]
      omega
    have HR : Hid (decide (ls = ks) = false) := decide_eq_false (fun e => hl (by rw [e]))
    clear hl
    go_enter Tryz.func80, Tryz.ntmps80
    go_wp2
    go_returns
    exact ⟨by rw [HR.out]; rfl, Below.refl _ _⟩
end Go.Proofs.YtlalgaioiapjmaaGreatDoor
namespace Go.Proofs.YtlalgaioiapjmaaGreatDoor
open Go.ChangeShapes Go.WideShapes Go.ChangeAt Go.RowKit
open K (Term TermsAt)
theorem c_isNaN (s : ByteArray) (w : World) : Calls Tryz.prog 56 #[.string s] w fun e w' => e = .returned (.bool false) ∧ w' = w := by
  go_enter Tryz.func56, Tryz.ntmps56
  go_wp2
  go_returns
  exact ⟨rfl, rfl⟩
def ltT (x y : ByteArray) : Bool := Op.bytesLess x.toList y.toList
def cmpT (x y : ByteArray) : Int := if ltT x y = true then -1 else if (x.toList == y.toList) = true then 0 else 1
theorem c_cmpT (x y : ByteArray) (w : World) : Calls Tryz.prog 22 #[.string x, .string y] w fun e w' => e = .returned (.int .i64 (cmpT x y)) ∧ w' = w := by
  obtain ⟨b1, e1⟩ : ∃ b, Op.bytesLess x.toList y.toList = b := ⟨_, rfl⟩
  obtain ⟨b2, e2⟩ : ∃ b, (x.toList == y.toList) = b := ⟨_, rfl⟩
  have CT : Hid (cmpT x y = if b1 = true then -1 else if b2 = true then 0 else 1) := by
    show _ = _
    unfold cmpT ltT
    rw [e1, e2]
  have NX := Lib.hid (c_isNaN x w)
  have NY := Lib.hid (c_isNaN y w)
  go_enter Tryz.func22, Tryz.ntmps22
  cases b1 with
  | true =>
    go_wp2_with (first
      | (go_at_call 56; (with_reducible refine NX.out.mono ?_); rintro e w2 ⟨rfl, hw⟩; obtain rfl := hw.symm)
      | (go_at_call 56; (with_reducible refine NY.out.mono ?_); rintro e w2 ⟨rfl, hw⟩; obtain rfl := hw.symm))
    go_returns
    exact ⟨by rw [CT.out]; rfl, rfl⟩
  | false =>
    cases b2 with
    | true =>
      go_wp2_with (first
        | (go_at_call 56; (with_reducible refine NX.out.mono ?_); rintro e w2 ⟨rfl, hw⟩; obtain rfl := hw.symm)
        | (go_at_call 56; (with_reducible refine NY.out.mono ?_); rintro e w2 ⟨rfl, hw⟩; obtain rfl := hw.symm))
      go_returns
      exact ⟨by rw [CT.out]; rfl, rfl⟩
    | false =>
      go_wp2_with (first
        | (go_at_call 56; (with_reducible refine NX.out.mono ?_); rintro e w2 ⟨rfl, hw⟩; obtain rfl := hw.symm)
        | (go_at_call 56; (with_reducible refine NY.out.mono ?_); rintro e w2 ⟨rfl, hw⟩; obtain rfl := hw.symm))
      go_returns
      exact ⟨by rw [CT.out]; rfl, rfl⟩
end Go.Proofs.YtlalgaioiapjmaaGreatDoor
namespace Go.Proofs.YtlalgaioiapjmaaGreatDoor
open Go.ChangeShapes Go.WideShapes Go.ChangeAt Go.RowKit
theorem idx5 (b0 b1 b2 b3 b4 : Bool) (W : World) : (Instr.index 120 (.agg #[.bool b0, .bool b1, .bool b2, .bool b3, .bool b4]) (.int .i64 0)).run Tryz.prog W = .ok (.bool b0) W ∧
    (Instr.index 120 (.agg #[.bool b0, .bool b1, .bool b2, .bool b3, .bool b4]) (.int .i64 1)).run Tryz.prog W = .ok (.bool b1) W ∧
    (Instr.index 120 (.agg #[.bool b0, .bool b1, .bool b2, .bool b3, .bool b4]) (.int .i64 2)).run Tryz.prog W = .ok (.bool b2) W ∧
    (Instr.index 120 (.agg #[.bool b0, .bool b1, .bool b2, .bool b3, .bool b4]) (.int .i64 3)).run Tryz.prog W = .ok (.bool b3) W ∧
    (Instr.index 120 (.agg #[.bool b0, .bool b1, .bool b2, .bool b3, .bool b4]) (.int .i64 4)).run Tryz.prog W = .ok (.bool b4) W := by
  refine ⟨?_, ?_, ?_, ?_, ?_⟩ <;> kernel_rfl
end Go.Proofs.YtlalgaioiapjmaaGreatDoor
