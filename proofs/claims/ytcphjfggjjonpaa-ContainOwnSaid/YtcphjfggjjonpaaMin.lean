/- The walk of contain.Minimal. -/
import Derived.Test.YtcphjfggjjonpaaOwnC
import Derived.Test.YtcphjfggjjonpaaCore
namespace Go.Proofs.Ytcphjfggjjonpaa
open Go.ChangeShapes Go.WideShapes Go.ChangeAt Go.RowKit
def noRule : Rule := ⟨⟨⟨#[]⟩, []⟩, []⟩
theorem noRuleV (w : World) : RuleV w noRule none 0 0 none 0 0 :=
  ⟨Nat.zero_le _, ⟨Nat.zero_le _, rfl, fun i t h => by simp [noRule] at h⟩, ⟨Nat.zero_le _, rfl, fun i t h => by simp [noRule] at h⟩, ⟨Nat.le_refl _, fun _ => ⟨rfl, rfl⟩⟩, ⟨Nat.le_refl _, fun _ => ⟨rfl, rfl⟩⟩⟩
/-- A block that holds no number: no term and no literal begins in it. -/
def noInt (w : World) (b : Nat) : Prop := ∀ j k v, w.cell? ⟨b, j, none⟩ ≠ some (.int k v)
theorem noInt.ext {W w : World} {b : Nat} (hb : Ext W w) (hl : b < W.heap.size) (h : noInt W b) : noInt w b := fun j k v e => h j k v (by rw [← hb.cell (p := ⟨b, j, none⟩) hl]; exact e)
theorem noInt.put {w : World} {b c : Nat} (h : noInt w b) {u0 u1 u2 : Value} (h0 : w.cell? ⟨c, 0, none⟩ = some u0) (h1 : w.cell? ⟨c, 1, none⟩ = some u1) (h2 : w.cell? ⟨c, 2, none⟩ = some u2) (p : ByteArray) (a1 : Option Addr) (n1 c1 : Nat) (a2 : Option Addr) (n2 c2 : Nat) :
    noInt (((w.setCell ⟨c, 0, none⟩ (.string p)).setCell ⟨c, 1, none⟩ (.slice a1 n1 c1)).setCell ⟨c, 2, none⟩ (.slice a2 n2 c2)) b := by
  obtain ⟨s0, s1, s2, so, _, _⟩ := set3 h0 h1 h2 (.string p) (.slice a1 n1 c1) (.slice a2 n2 c2) rfl
  intro j k v e
  by_cases hbc : b = c
  · subst hbc
    match j with
    | 0 => rw [s0] at e; cases e
    | 1 => rw [s1] at e; cases e
    | 2 => rw [s2] at e; cases e
    | j + 3 =>
      rw [World.cell?_setCell_other _ _ _ _ (by simp), World.cell?_setCell_other _ _ _ _ (by simp), World.cell?_setCell_other _ _ _ _ (by simp)] at e
      exact h _ k v e
  · rw [so ⟨b, j, none⟩ hbc] at e
    exact h j k v e
theorem TermsAt.noInt {W w : World} {b : Nat} {a : Option Addr} {n : Nat} {ts : List Term} (hn : noInt W b) (hb : ∀ p : Addr, p.block ≠ b → w.cell? p = W.cell? p) (h : TermsAt W a n ts) : TermsAt w a n ts := by
  refine ⟨h.1, h.2.1, fun i t ht => ?_⟩
  obtain ⟨b', off, rfl, h1, h2, h3⟩ := h.2.2 i t ht
  have hne : b' ≠ b := fun e => by subst e; exact hn _ _ _ h1
  exact ⟨b', off, rfl, (hb ⟨b', off + i * 2, none⟩ hne).trans h1, (hb ⟨b', off + i * 2 + 1, none⟩ hne).trans h2, h3⟩
theorem LitsAt.noInt {W w : World} {b : Nat} {a : Option Addr} {n : Nat} {ls : List Lit} (hn : noInt W b) (hb : ∀ p : Addr, p.block ≠ b → w.cell? p = W.cell? p) (h : LitsAt W a n ls) : LitsAt w a n ls := by
  refine ⟨h.1, h.2.1, fun i l hl => ?_⟩
  obtain ⟨b', off, rfl, a', n', c', h0, h1, h2, h3, h4, h5, h6, h7, ht, hr⟩ := h.2.2 i l hl
  have hne : b' ≠ b := fun e => by subst e; exact hn _ _ _ h0
  exact ⟨b', off, rfl, a', n', c', (hb ⟨b', off + i * 8, none⟩ hne).trans h0, (hb ⟨b', off + i * 8 + 1, none⟩ hne).trans h1, (hb ⟨b', off + i * 8 + 2, none⟩ hne).trans h2, (hb ⟨b', off + i * 8 + 3, none⟩ hne).trans h3, (hb ⟨b', off + i * 8 + 4, none⟩ hne).trans h4, (hb ⟨b', off + i * 8 + 5, none⟩ hne).trans h5, (hb ⟨b', off + i * 8 + 6, none⟩ hne).trans h6, (hb ⟨b', off + i * 8 + 7, none⟩ hne).trans h7, ht.noInt hn hb, hr⟩
theorem RuleV.noInt {W w : World} {b : Nat} {r : Rule} {ah : Option Addr} {nh ch : Nat} {ab : Option Addr} {nb cb : Nat} (h : RuleV W r ah nh ch ab nb cb) (hn : noInt W b) (hb : ∀ p : Addr, p.block ≠ b → w.cell? p = W.cell? p) : RuleV w r ah nh ch ab nb cb :=
  ⟨h.pred, h.terms.noInt hn hb, h.body.noInt hn hb, h.hcap, h.bcap⟩
theorem noInt_new (w : World) (p : ByteArray) (a : Option Addr) (n c : Nat) (a' : Option Addr) (n' c' : Nat) (t : TypeId) : noInt (w.alloc (.cells #[.string p, .slice a n c, .slice a' n' c'] t)) w.heap.size := by
  intro j k v e
  rw [World.cell?_alloc_new] at e
  match j with
  | 0 => simp at e
  | 1 => simp at e
  | 2 => simp at e
  | j + 3 => simp at e
/-- The variable of a rule. -/
structure VarR (w : World) (b : Nat) (r : Rule) (ah : Option Addr) (nh ch : Nat) (ab : Option Addr) (nb cb : Nat) : Prop where
  c0 : w.cell? ⟨b, 0, none⟩ = some (.string r.head.pred)
  c1 : w.cell? ⟨b, 1, none⟩ = some (.slice ah nh ch)
  c2 : w.cell? ⟨b, 2, none⟩ = some (.slice ab nb cb)
  f0 : w.frozen? ⟨b, 0, none⟩ = false
  f1 : w.frozen? ⟨b, 1, none⟩ = false
  f2 : w.frozen? ⟨b, 2, none⟩ = false
  free : noInt w b
theorem VarR.lt {w : World} {b : Nat} {r : Rule} {ah : Option Addr} {nh ch : Nat} {ab : Option Addr} {nb cb : Nat} (h : VarR w b r ah nh ch ab nb cb) : b < w.heap.size := World.block_lt_of_cell? w ⟨b, 0, none⟩ h.c0
theorem VarR.keep {W w : World} {b : Nat} {r : Rule} {ah : Option Addr} {nh ch : Nat} {ab : Option Addr} {nb cb : Nat} (hb : Ext W w) (h : VarR W b r ah nh ch ab nb cb) : VarR w b r ah nh ch ab nb cb :=
  ⟨Ytcphjfggjjonpaa.keep hb h.c0, Ytcphjfggjjonpaa.keep hb h.c1, Ytcphjfggjjonpaa.keep hb h.c2, (hb.frozen (p := ⟨b, 0, none⟩) h.lt).trans h.f0, (hb.frozen (p := ⟨b, 1, none⟩) h.lt).trans h.f1, (hb.frozen (p := ⟨b, 2, none⟩) h.lt).trans h.f2, h.free.ext hb h.lt⟩
theorem VarR.put {w : World} {b : Nat} {r : Rule} {ah : Option Addr} {nh ch : Nat} {ab : Option Addr} {nb cb : Nat} (h : VarR w b r ah nh ch ab nb cb) (s : Rule) (a1 : Option Addr) (n1 c1 : Nat) (a2 : Option Addr) (n2 c2 : Nat) :
    VarR (((w.setCell ⟨b, 0, none⟩ (.string s.head.pred)).setCell ⟨b, 1, none⟩ (.slice a1 n1 c1)).setCell ⟨b, 2, none⟩ (.slice a2 n2 c2)) b s a1 n1 c1 a2 n2 c2 := by
  obtain ⟨s0, s1, s2, _, sf, _⟩ := set3 h.c0 h.c1 h.c2 (.string s.head.pred) (.slice a1 n1 c1) (.slice a2 n2 c2) rfl
  exact ⟨s0, s1, s2, (sf _).trans h.f0, (sf _).trans h.f1, (sf _).trans h.f2, h.free.put h.c0 h.c1 h.c2 _ _ _ _ _ _ _⟩
theorem VarR.put_other {w : World} {b c : Nat} (hbc : b ≠ c) {r : Rule} {ah : Option Addr} {nh ch : Nat} {ab : Option Addr} {nb cb : Nat} (h : VarR w b r ah nh ch ab nb cb) {q : Rule} {a3 : Option Addr} {n3 c3 : Nat} {a4 : Option Addr} {n4 c4 : Nat} (k : VarR w c q a3 n3 c3 a4 n4 c4) (s : Rule) (a1 : Option Addr) (n1 c1 : Nat) (a2 : Option Addr) (n2 c2 : Nat) :
    VarR (((w.setCell ⟨c, 0, none⟩ (.string s.head.pred)).setCell ⟨c, 1, none⟩ (.slice a1 n1 c1)).setCell ⟨c, 2, none⟩ (.slice a2 n2 c2)) b r ah nh ch ab nb cb := by
  obtain ⟨_, _, _, so, sf, _⟩ := set3 k.c0 k.c1 k.c2 (.string s.head.pred) (.slice a1 n1 c1) (.slice a2 n2 c2) rfl
  exact ⟨(so ⟨b, 0, none⟩ hbc).trans h.c0, (so ⟨b, 1, none⟩ hbc).trans h.c1, (so ⟨b, 2, none⟩ hbc).trans h.c2, (sf _).trans h.f0, (sf _).trans h.f1, (sf _).trans h.f2, h.free.put k.c0 k.c1 k.c2 _ _ _ _ _ _ _⟩
theorem RuleV.put {w : World} {c : Nat} {r : Rule} {ah : Option Addr} {nh ch : Nat} {ab : Option Addr} {nb cb : Nat} (h : RuleV w r ah nh ch ab nb cb) {q : Rule} {a3 : Option Addr} {n3 c3 : Nat} {a4 : Option Addr} {n4 c4 : Nat} (k : VarR w c q a3 n3 c3 a4 n4 c4) (s : Rule) (a1 : Option Addr) (n1 c1 : Nat) (a2 : Option Addr) (n2 c2 : Nat) :
    RuleV (((w.setCell ⟨c, 0, none⟩ (.string s.head.pred)).setCell ⟨c, 1, none⟩ (.slice a1 n1 c1)).setCell ⟨c, 2, none⟩ (.slice a2 n2 c2)) r ah nh ch ab nb cb := by
  obtain ⟨_, _, _, so, _, _⟩ := set3 k.c0 k.c1 k.c2 (.string s.head.pred) (.slice a1 n1 c1) (.slice a2 n2 c2) rfl
  exact h.noInt k.free so
theorem VarR.new (w : World) (r : Rule) (ah : Option Addr) (nh ch : Nat) (ab : Option Addr) (nb cb : Nat) (t : TypeId) : VarR (w.alloc (.cells #[.string r.head.pred, .slice ah nh ch, .slice ab nb cb] t)) w.heap.size r ah nh ch ab nb cb := by
  refine ⟨?_, ?_, ?_, ?_, ?_, ?_, noInt_new w _ _ _ _ _ _ _ t⟩
  · rw [World.cell?_alloc_new]; rfl
  · rw [World.cell?_alloc_new]; rfl
  · rw [World.cell?_alloc_new]; rfl
  · exact World.frozen?_alloc_at _ _ _ _ rfl
  · exact World.frozen?_alloc_at _ _ _ _ rfl
  · exact World.frozen?_alloc_at _ _ _ _ rfl
/-- Before a round of Minimal's loop: the rule at hand lies in the variable b5. -/
structure MinSt (w0 : World) (b5 : Nat) (R : Int × Option Rule) (out : Rule) (i : Nat) (ah : Option Addr) (nh ch : Nat) (ab : Option Addr) (nb cb : Nat) (w : World) : Prop where
  old : Ext w0 w
  low : w0.heap.size + 1 < b5
  res : VarR w (w0.heap.size + 1) noRule none 0 0 none 0 0
  var : VarR w b5 out ah nh ch ab nb cb
  rule : RuleV w out ah nh ch ab nb cb
  plain : plain out = true
  law : minGo (out.body.length - i + 1) out i = R
  le : i ≤ nb
theorem flatP_take {ps : List LitP} {i j : Nat} {u : Value} (h : (flatP (ps.take i))[j]? = some u) : (flatP ps)[j]? = some u := by
  have e : flatP ps = flatP (ps.take i) ++ flatP (ps.drop i) := by rw [← flatP_append, List.take_append_drop]
  rw [e, List.getElem?_append_left (List.getElem?_eq_some_iff.1 h).1]
  exact h
theorem flatP_drop {ps : List LitP} {i j : Nat} {u : Value} (hi : i ≤ ps.length) (h : (flatP (ps.drop i))[j]? = some u) : (flatP ps)[i * 8 + j]? = some u := by
  have e : flatP ps = flatP (ps.take i) ++ flatP (ps.drop i) := by rw [← flatP_append, List.take_append_drop]
  have hl : (flatP (ps.take i)).length = i * 8 := by rw [flatP_len, List.length_take, Nat.min_eq_left hi]
  rw [e, List.getElem?_append_right (by rw [hl]; omega), hl, Nat.add_sub_cancel_left]
  exact h
theorem two_at (w : World) (B : Nat) (hB : B = w.heap.size) (u0 u1 : Value) (t : TypeId) : (w.alloc (.cells #[u0, u1] t)).cell? ⟨B, 0, none⟩ = some u0 ∧ (w.alloc (.cells #[u0, u1] t)).cell? ⟨B, 1, none⟩ = some u1 := by
  subst hB
  rw [World.cell?_alloc_new, World.cell?_alloc_new]
  exact ⟨rfl, rfl⟩
theorem c_cut (ps : List LitP) (b o n k i : Nat) (w V : World) (B : Nat) (A2 : Option Addr) (hA : A2 = if k = i + 1 then some ⟨b, o, none⟩ else some ⟨b, o + (i + 1) * 8, none⟩) (hE : Ext w V) (hc : V.cell? ⟨B, 0, none⟩ = some (.slice (some ⟨b, o, none⟩) i k) ∧ V.cell? ⟨B, 1, none⟩ = some (.slice A2 (n - (i + 1)) (k - (i + 1)))) (hpl : ps.length = n) (hn : n ≤ 64) (hi : i < n) (hk : n ≤ k) (hcl : ∀ ad, some (⟨b, o, none⟩ : Addr) = some ad → ∀ j u, (flatP ps)[j]? = some u → w.cell? (ad.add j) = some u) :
    Calls Try.prog 54 #[.slice (some ⟨B, 0, none⟩) 2 2] V
      fun e w' => ∃ a' c', e = .returned (.slice a' (n - 1) c') ∧ w'.ownsRow w.heap.size 43 8 (.slice a' (n - 1) c') (n - 1) (flatP (ps.take i ++ ps.drop (i + 1))) ∧ Ext V w' := by
  have e1 : i + (n - (i + 1)) = n - 1 := by omega
  refine (c_Concat (ps.take i) (ps.drop (i + 1)) B (some ⟨b, o, none⟩) i k A2 (n - (i + 1)) (k - (i + 1)) V hc.1 hc.2 (by rw [List.length_take, hpl]; omega) (by rw [List.length_drop, hpl]) (by omega) (fun e => by cases e) ?_ (fun ad e j u hu => ?_) ?_).mono fun e w' h => ?_
  · intro e
    rw [hA] at e
    split at e <;> cases e
  · exact keep hE (hcl ad e j u (flatP_take hu))
  · intro ad e j u hu
    have hj := (List.getElem?_eq_some_iff.1 hu).1
    rw [flatP_len, List.length_drop, hpl] at hj
    rw [hA, if_neg (by omega)] at e
    cases e
    have := hcl _ rfl _ u (flatP_drop (by omega) hu)
    rw [Addr.add_lit] at this ⊢
    rw [Nat.add_assoc]
    exact keep hE this
  · rw [e1] at h
    obtain ⟨a', c', he, ho, hb⟩ := h
    exact ⟨a', c', he, own_base ho hE.size, hb⟩
theorem less_rule {w wr : World} {out : Rule} {i : Nat} {ah : Option Addr} {nh ch : Nat} {ab : Option Addr} {nb cb : Nat} (h : RuleV w out ah nh ch ab nb cb) (e : Ext w wr) {ps : List LitP} (hps : ps.map (·.1) = out.body) (hok : ∀ p ∈ ps, okP w p) (hi : i < nb) {base : Nat} {a' : Option Addr} {c' : Nat}
    (ho : wr.ownsRow base 43 8 (.slice a' (nb - 1) c') (nb - 1) (flatP (ps.take i ++ ps.drop (i + 1)))) : RuleV wr (less out i) ah nh ch a' (nb - 1) c' := by
  have hpl : ps.length = nb := by rw [← h.body.2.1, ← hps, List.length_map]
  have hb := own_litsP (rest := []) (n := nb - 1) (by rw [List.append_nil]; exact ho) (by simp; omega) (by have := h.body.1; omega) (fun p hp => (hok p (by
    rcases List.mem_append.1 hp with hp | hp
    · exact List.mem_of_mem_take hp
    · exact List.mem_of_mem_drop hp)).keep e)
  refine ⟨h.pred, h.terms.keep e, ?_, h.hcap, cap_of_own ho⟩
  rw [List.map_append, List.map_take, List.map_drop, hps] at hb
  exact hb
theorem minGo_round {out : Rule} {i : Nat} (h : i < out.body.length) : minGo (out.body.length - i + 1) out i =
    if plain (less out i) = false then minGo (out.body.length - (i + 1) + 1) out (i + 1)
    else if (laid (less out i) out).1 ≠ 0 then ((laid (less out i) out).1, none)
    else if (laid (less out i) out).2.isSome = true then minGo ((less out i).body.length - i + 1) (less out i) i
    else minGo (out.body.length - (i + 1) + 1) out (i + 1) := by
  have h1 := less_len h
  have e1 : out.body.length - (i + 1) + 1 = out.body.length - i := by omega
  have e2 : (less out i).body.length - i + 1 = out.body.length - i := by omega
  rw [e1, e2, minGo, if_pos h]
def lenOf : Option Value → Nat
  | some (.slice _ n _) => n
  | _ => 0
theorem MinSt.keep {w0 w w' : World} {b5 : Nat} {R : Int × Option Rule} {out : Rule} {i : Nat} {ah : Option Addr} {nh ch : Nat} {ab : Option Addr} {nb cb : Nat} (h : MinSt w0 b5 R out i ah nh ch ab nb cb w) (e : Ext w w') : MinSt w0 b5 R out i ah nh ch ab nb cb w' :=
  ⟨ext_trans h.old e, h.low, h.res.keep e, h.var.keep e, h.rule.keep e, h.plain, h.law, h.le⟩
theorem MinSt.next {w0 w : World} {b5 : Nat} {R : Int × Option Rule} {out : Rule} {i : Nat} {ah : Option Addr} {nh ch : Nat} {ab : Option Addr} {nb cb : Nat} (h : MinSt w0 b5 R out i ah nh ch ab nb cb w) (hi : i + 1 ≤ nb) (hl : R = minGo (out.body.length - (i + 1) + 1) out (i + 1)) : MinSt w0 b5 R out (i + 1) ah nh ch ab nb cb w :=
  ⟨h.old, h.low, h.res, h.var, h.rule, h.plain, hl.symm, hi⟩
theorem MinSt.cut {w0 w : World} {b5 : Nat} {R : Int × Option Rule} {out : Rule} {i : Nat} {ah : Option Addr} {nh ch : Nat} {ab : Option Addr} {nb cb : Nat} (h : MinSt w0 b5 R out i ah nh ch ab nb cb w) (hi : i < nb) {a' : Option Addr} {c' : Nat} (hr : RuleV w (less out i) ah nh ch a' (nb - 1) c') (hp : Go.Proofs.Ytcphjfggjjonpaa.plain (less out i) = true) (hl : R = minGo ((less out i).body.length - i + 1) (less out i) i) :
    MinSt w0 b5 R (less out i) i ah nh ch a' (nb - 1) c' (((w.setCell ⟨b5, 0, none⟩ (.string (less out i).head.pred)).setCell ⟨b5, 1, none⟩ (.slice ah nh ch)).setCell ⟨b5, 2, none⟩ (.slice a' (nb - 1) c')) := by
  have h5 : w0.heap.size ≤ b5 := by have := h.low; omega
  refine ⟨ext_set (ext_set (ext_set h.old h5 _) h5 _) h5 _, h.low, h.res.put_other (by have := h.low; omega) h.var (less out i) ah nh ch a' (nb - 1) c', h.var.put (less out i) ah nh ch a' (nb - 1) c', hr.put h.var (less out i) ah nh ch a' (nb - 1) c', hp, hl.symm, by omega⟩
theorem nb_le {w : World} {r : Rule} {ah : Option Addr} {nh ch : Nat} {ab : Option Addr} {nb cb : Nat} (h : RuleV w r ah nh ch ab nb cb) (hp : plain r = true) : nb ≤ 64 := by
  rw [← h.body.2.1]
  exact (mayRule_lits (plain_may hp).1).2.1
set_option maxRecDepth 20000 in
set_option maxHeartbeats 4000000 in
theorem c_Minimal (r : Rule) (ah : Option Addr) (nh ch : Nat) (ab : Option Addr) (nb cb : Nat) (w : World) (hr : RuleV w r ah nh ch ab nb cb) :
    Calls Try.prog 29 #[.agg #[.string r.head.pred, .slice ah nh ch, .slice ab nb cb]] w fun e w' => ∃ ah' nh' ch' ab' nb' cb', e = .returned (.tuple #[.agg #[.string ((minimal r).2.getD noRule).head.pred, .slice ah' nh' ch', .slice ab' nb' cb'], .int .i64 (minimal r).1]) ∧ RuleV w' ((minimal r).2.getD noRule) ah' nh' ch' ab' nb' cb' ∧ Ext w w' := by
  have HR := Lib.hid hr
  clear hr
  obtain ⟨R, hR⟩ : ∃ R, minimal r = R := ⟨_, rfl⟩
  rw [hR]
  have HRR := Lib.hid hR
  clear hR
  go_enter Try.func29, Try.ntmps29
  go_upto_region 1 with (fail)
  refine wp_gen (fun W hW => ?_)
  have hb0 : Ext w W := by rw [hW]; go_grown
  have x0 : W.cell? ⟨w.heap.size, 0, none⟩ = some (.string r.head.pred) := by rw [hW]; go_simp
  have x1 : W.cell? ⟨w.heap.size, 1, none⟩ = some (.slice ah nh ch) := by rw [hW]; go_simp
  have x2 : W.cell? ⟨w.heap.size, 2, none⟩ = some (.slice ab nb cb) := by rw [hW]; go_simp
  have vz : VarR W (w.heap.size + 1) noRule none 0 0 none 0 0 := by
    rw [hW]
    have h := VarR.new (w.alloc (.cells #[.string r.head.pred, .slice ah nh ch, .slice ab nb cb] 27)) noRule none 0 0 none 0 0 27
    rw [World.size_alloc] at h
    exact h
  have VZ := Lib.hid vz
  clear hW vz
  obtain ⟨M, hM⟩ : ∃ M, mayRule r = M := ⟨_, rfl⟩
  have HM := Lib.hid hM
  clear hM
  obtain ⟨bm, hbm⟩ : ∃ b, (M != 0) = b := ⟨_, rfl⟩
  go_upto_if 13 with (go_at_call 37; (with_reducible refine (c_MayRule r _ _ _ _ _ _ _ (HR.out.keep hb0)).mono ?_); rw [HM.out]; rintro e w1 ⟨rfl, h1⟩)
  have VZ1 := Lib.hid (VZ.out.keep h1)
  cases bm with
  | true =>
    have v0 := VZ1.out.c0
    have v1 := VZ1.out.c1
    have v2 := VZ1.out.c2
    have f0 := VZ1.out.f0
    have f1 := VZ1.out.f1
    have f2 := VZ1.out.f2
    dsimp only [noRule] at v0
    go_wp2
    have P := VZ1.out.put noRule none 0 0 none 0 0
    have S0 := P.c0
    have S1 := P.c1
    have S2 := P.c2
    dsimp only [noRule] at S0 S1 S2
    have E6 : Ext w (((w1.setCell ⟨w.heap.size + 1, 0, none⟩ (.string ⟨#[]⟩)).setCell ⟨w.heap.size + 1, 1, none⟩ (.slice none 0 0)).setCell ⟨w.heap.size + 1, 2, none⟩ (.slice none 0 0)) := ext_set (ext_set (ext_set (ext_trans hb0 h1) (Nat.le_succ _) _) (Nat.le_succ _) _) (Nat.le_succ _) _
    clear P
    generalize (((w1.setCell ⟨w.heap.size + 1, 0, none⟩ (.string ⟨#[]⟩)).setCell ⟨w.heap.size + 1, 1, none⟩ (.slice none 0 0)).setCell ⟨w.heap.size + 1, 2, none⟩ (.slice none 0 0)) = W6 at S0 S1 S2 E6 ⊢
    refine bodyPost_ret (by simp [results, Try.results29, go_sem, S0, S1, S2]; try rfl) rfl ?_
    obtain rfl : R = (M, none) := by rw [← HRR.out, ← HM.out]; unfold minimal; rw [if_pos (by rw [HM.out]; simpa using hbm)]
    exact ⟨none, 0, 0, none, 0, 0, rfl, noRuleV _, E6⟩
  | false =>
    obtain rfl : M = 0 := by simpa using hbm
    obtain ⟨bp, hbp⟩ : ∃ b, plain r = b := ⟨_, rfl⟩
    have PL := Lib.hid hbp
    clear hbp hbm
    have y0 := keep h1 x0
    have y1 := keep h1 x1
    have y2 := keep h1 x2
    have hb1 := ext_trans hb0 h1
    clear x0 x1 x2 h1
    go_upto_if 18 with (go_at_call 15; (with_reducible refine (c_Plain r _ _ _ _ _ _ _ (HR.out.keep hb1)).mono ?_); rw [PL.out]; rintro e w2 ⟨rfl, h2⟩)
    have VZ2 := Lib.hid (VZ1.out.keep h2)
    cases bp with
    | false =>
      have v0 := VZ2.out.c0
      have v1 := VZ2.out.c1
      have v2 := VZ2.out.c2
      have f0 := VZ2.out.f0
      have f1 := VZ2.out.f1
      have f2 := VZ2.out.f2
      dsimp only [noRule] at v0
      go_wp2
      have P := VZ2.out.put noRule none 0 0 none 0 0
      have S0 := P.c0
      have S1 := P.c1
      have S2 := P.c2
      dsimp only [noRule] at S0 S1 S2
      have E6 : Ext w (((w2.setCell ⟨w.heap.size + 1, 0, none⟩ (.string ⟨#[]⟩)).setCell ⟨w.heap.size + 1, 1, none⟩ (.slice none 0 0)).setCell ⟨w.heap.size + 1, 2, none⟩ (.slice none 0 0)) := ext_set (ext_set (ext_set (ext_trans hb1 h2) (Nat.le_succ _) _) (Nat.le_succ _) _) (Nat.le_succ _) _
      clear P
      generalize (((w2.setCell ⟨w.heap.size + 1, 0, none⟩ (.string ⟨#[]⟩)).setCell ⟨w.heap.size + 1, 1, none⟩ (.slice none 0 0)).setCell ⟨w.heap.size + 1, 2, none⟩ (.slice none 0 0)) = W6 at S0 S1 S2 E6 ⊢
      refine bodyPost_ret (by simp [results, Try.results29, go_sem, S0, S1, S2]; try rfl) rfl ?_
      obtain rfl : R = (240, none) := by rw [← HRR.out]; unfold minimal; rw [if_neg (by rw [HM.out]; simp), if_pos PL.out]
      exact ⟨none, 0, 0, none, 0, 0, rfl, noRuleV _, E6⟩
    | true =>
      have y0 := keep h2 y0
      have y1 := keep h2 y1
      have y2 := keep h2 y2
      have hb2 := ext_trans hb1 h2
      clear h2 hb1 hb0
      go_upto_region 7 with (go_at_call 51; (with_reducible refine (c_ownC r _ _ _ _ _ _ _ (HR.out.keep hb2)).mono ?_); rintro e w3 ⟨a3, c3, b3, k3, rfl, R3, h3⟩)
      refine wp_gen (fun W4 hW4 => ?_)
      have st : MinSt w w3.heap.size R r 0 a3 nh c3 b3 nb k3 W4 := by
        have hb3 := ext_trans hb2 h3
        have e4 : Ext w3 W4 := by rw [hW4]; exact ext_alloc (Below.refl _ _) _
        refine ⟨ext_trans hb3 e4, ?_, (VZ2.out.keep h3).keep e4, ?_, R3.keep e4, PL.out, ?_, Nat.zero_le _⟩
        · exact Nat.lt_of_lt_of_le VZ2.out.lt h3.size
        · rw [hW4]; exact VarR.new w3 r a3 nh c3 b3 nb k3 _
        · rw [← HRR.out]; unfold minimal; rw [if_neg (by rw [HM.out]; simp), if_neg (by rw [PL.out]; simp)]; rfl
      obtain ⟨b5, hb5⟩ : ∃ b, b = w3.heap.size := ⟨_, rfl⟩
      rw [← hb5] at st ⊢
      have ST := Lib.hid st
      clear st hW4 R3 h3 hb5 y0 y1 y2 hb2 VZ1 VZ2
      go_wp2
      go_loopw [6] (fun v wj => ∃ out i a3 n3 c3 b3 nb3 k3, v = .int .i64 ((i : Nat) : Int) ∧ MinSt w b5 R out i a3 n3 c3 b3 nb3 k3 wj) (fun v wj => lenOf (wj.cell? ⟨b5, 2, none⟩) - (intOf v).toNat)
      case atStart => exact ⟨r, 0, _, _, _, _, _, _, rfl, ST.out⟩
      case round =>
        obtain ⟨out, i, a3, n3, c3, b3, nb3, k3, rfl, hs⟩ := hrel
        clear ST
        have HS := Lib.hid hs
        have hlen := hs.rule.body.2.1
        have hn64 := nb_le hs.rule hs.plain
        have hle := hs.le
        have z0 := hs.var.c0
        have z1 := hs.var.c1
        have z2 := hs.var.c2
        have HLEN := Lib.hid hlen
        clear hs hlen
        by_cases hge : nb3 ≤ i
        · have v0 := HS.out.res.c0
          have v1 := HS.out.res.c1
          have v2 := HS.out.res.c2
          have f0 := HS.out.res.f0
          have f1 := HS.out.res.f1
          have f2 := HS.out.res.f2
          dsimp only [noRule] at v0
          go_wp2
          have P := HS.out.res.put out a3 n3 c3 b3 nb3 k3
          have Q := HS.out.rule.put HS.out.res out a3 n3 c3 b3 nb3 k3
          have S0 := P.c0
          have S1 := P.c1
          have S2 := P.c2
          have E6 : Ext w (((wr.setCell ⟨w.heap.size + 1, 0, none⟩ (.string out.head.pred)).setCell ⟨w.heap.size + 1, 1, none⟩ (.slice a3 n3 c3)).setCell ⟨w.heap.size + 1, 2, none⟩ (.slice b3 nb3 k3)) := ext_set (ext_set (ext_set HS.out.old (Nat.le_succ _) _) (Nat.le_succ _) _) (Nat.le_succ _) _
          clear P
          generalize (((wr.setCell ⟨w.heap.size + 1, 0, none⟩ (.string out.head.pred)).setCell ⟨w.heap.size + 1, 1, none⟩ (.slice a3 n3 c3)).setCell ⟨w.heap.size + 1, 2, none⟩ (.slice b3 nb3 k3)) = W6 at S0 S1 S2 Q E6 ⊢
          refine bodyPost_ret (by simp [results, Try.results29, go_sem, S0, S1, S2]; try rfl) rfl ?_
          obtain rfl : R = (0, some out) := by
            rw [← HS.out.law, minGo, if_neg (by rw [HLEN.out]; omega)]
          exact ⟨a3, n3, c3, b3, nb3, k3, rfl, Q, E6⟩
        · obtain ⟨b3', o3', rfl, _⟩ : ∃ b o, b3 = some ⟨b, o, none⟩ ∧ True := by
            obtain ⟨_, b, o, _, e, _⟩ := HS.out.rule.body.2.at (i := i) (by omega)
            exact ⟨b, o, e, trivial⟩
          have hcap := HS.out.rule.bcap.1
          have hki : (i : Int) < (nb3 : Int) := by omega
          obtain ⟨ps, hps, hok, hcl⟩ := HS.out.rule.body.parts
          have hpl : ps.length = nb3 := by rw [← HS.out.rule.body.2.1, ← hps, List.length_map]
          have HPS := Lib.hid hps
          have HOK := Lib.hid hok
          have HCL := Lib.hid hcl
          clear hps hok hcl
          have hd : Ext wr wr.drew := ext_drew (Below.refl _ _)
          have hlt9 : i < nb3 := by omega
          have hb5w : ∀ {b : Nat}, wr.heap.size ≤ b → b5 ≠ b := fun h => by have := HS.out.var.lt; omega
          have q1 : (0 : Int) ≤ (i : Int) := by omega
          have q2 : (i : Int) ≤ (k3 : Int) := by omega
          have q3 : (i : Int) + 1 ≤ (nb3 : Int) := by omega
          have q4 : (nb3 : Int) ≤ (k3 : Int) := by omega
          have q5 : (0 : Int) ≤ (i : Int) + 1 := by omega
          have q6 : wrap64 ((i : Int) + 1) = (i : Int) + 1 := by unfold wrap64; omega
          have q7 : IntKind.i64.wrap ((i : Int) + 1) = (i : Int) + 1 := (IntWalk.i64_left _).trans q6
          go_upto_region 9 with (fail)
          go_cut [7] (fun v7 wc => ∃ b7 a' c', v7 = .pointer (some ⟨b7, 0, none⟩) ∧ Ext wr wc ∧ VarR wc b7 (less out i) a3 n3 c3 a' (nb3 - 1) c' ∧ RuleV wc (less out i) a3 n3 c3 a' (nb3 - 1) c' ∧ b7 ≠ b5)
          case first =>
            by_cases hkk : k3 = i + 1
            · have HK := Lib.hid hkk
              have hkt : (k3 = i + 1) = True := eq_true hkk
              clear hkk
              go_region_held3 (fun w' => w'.cell? ⟨b5, 0, none⟩ = some (.string out.head.pred) ∧ w'.cell? ⟨b5, 1, none⟩ = some (.slice a3 n3 c3) ∧ w'.cell? ⟨b5, 2, none⟩ = some (.slice (some ⟨b3', o3', none⟩) nb3 k3))
                (first | go_keep | exact ⟨keep g6 z0, keep g6 z1, keep g6 z2⟩ | exact ⟨keep (ext_alloc g6 _) z0, keep (ext_alloc g6 _) z1, keep (ext_alloc g6 _) z2⟩ | exact ⟨((HS.out.var.keep g6).put_other (hb5w (Nat.le_refl _)) VR (less out i) a3 n3 c3 a6 (nb3 - 1) p6).c0, ((HS.out.var.keep g6).put_other (hb5w (Nat.le_refl _)) VR (less out i) a3 n3 c3 a6 (nb3 - 1) p6).c1, ((HS.out.var.keep g6).put_other (hb5w (Nat.le_refl _)) VR (less out i) a3 n3 c3 a6 (nb3 - 1) p6).c2⟩ | exact ⟨((HS.out.var.keep g6).put_other (hb5w (Nat.le_succ _)) VR (less out i) a3 n3 c3 a6 (nb3 - 1) p6).c0, ((HS.out.var.keep g6).put_other (hb5w (Nat.le_succ _)) VR (less out i) a3 n3 c3 a6 (nb3 - 1) p6).c1, ((HS.out.var.keep g6).put_other (hb5w (Nat.le_succ _)) VR (less out i) a3 n3 c3 a6 (nb3 - 1) p6).c2⟩ | fail)
                (first | (go_at_call 54; (with_reducible refine (c_cut ps b3' o3' nb3 k3 i wr _ wr.heap.size _ (if_pos HK.out).symm (ext_drew (ext_alloc (Below.refl wr.heap.size wr) _)) (⟨keep (ext_drew (Below.refl _ _)) (two_at wr _ rfl _ _ _).1, keep (ext_drew (Below.refl _ _)) (two_at wr _ rfl _ _ _).2⟩) hpl hn64 hlt9 hcap HCL.out).mono ?_); rintro e w6 ⟨a6, p6, rfl, own6, gV⟩; have g6 := ext_trans (ext_drew (ext_alloc (Below.refl wr.heap.size wr) _)) gV) | (go_at_call 54; (with_reducible refine (c_cut ps b3' o3' nb3 k3 i wr _ wr.heap.size _ (if_pos HK.out).symm (ext_drew (ext_alloc (ext_alloc (Below.refl wr.heap.size wr) _) _)) (⟨keep (ext_drew (ext_alloc (Below.refl _ _) _)) (two_at wr _ rfl _ _ _).1, keep (ext_drew (ext_alloc (Below.refl _ _) _)) (two_at wr _ rfl _ _ _).2⟩) hpl hn64 hlt9 hcap HCL.out).mono ?_); rintro e w6 ⟨a6, p6, rfl, own6, gV⟩; have g6 := ext_trans (ext_drew (ext_alloc (ext_alloc (Below.refl wr.heap.size wr) _) _)) gV; have VR := (VarR.new (wr.alloc (.cells #[.slice (some ⟨b3', o3', none⟩) i k3, .slice (some ⟨b3', o3', none⟩) (nb3 - (i + 1)) (k3 - (i + 1))] 25)) noRule none 0 0 none 0 0 27).keep (ext_trans (ext_drew (Below.refl _ _)) gV); rw [World.size_alloc] at VR; have t0 := VR.c0; have t1 := VR.c1; have t2 := VR.c2; have t3 := VR.f0; have t4 := VR.f1; have t5 := VR.f2; dsimp only [noRule] at t0) | (go_at_call 54; (with_reducible refine (c_cut ps b3' o3' nb3 k3 i wr _ (wr.heap.size + 1) _ (if_pos HK.out).symm (ext_drew (ext_alloc (ext_alloc (Below.refl wr.heap.size wr) _) _)) (⟨keep (ext_drew (Below.refl _ _)) (two_at (wr.alloc _) _ (by simp) _ _ _).1, keep (ext_drew (Below.refl _ _)) (two_at (wr.alloc _) _ (by simp) _ _ _).2⟩) hpl hn64 hlt9 hcap HCL.out).mono ?_); rintro e w6 ⟨a6, p6, rfl, own6, gV⟩; have g6 := ext_trans (ext_drew (ext_alloc (ext_alloc (Below.refl wr.heap.size wr) _) _)) gV; have VR := (VarR.new wr noRule none 0 0 none 0 0 27).keep (ext_trans (ext_drew (ext_alloc (Below.refl _ _) _)) gV); have t0 := VR.c0; have t1 := VR.c1; have t2 := VR.c2; have t3 := VR.f0; have t4 := VR.f1; have t5 := VR.f2; dsimp only [noRule] at t0) | fail)
              all_goals
                go_wp2
                go_meet
                have hm : RuleV w6 (less out i) a3 n3 c3 a6 (nb3 - 1) p6 := less_rule HS.out.rule g6 HPS.out HOK.out hlt9 own6
                first | exact ⟨w6.heap.size, a6, p6, rfl, ext_alloc g6 _, VarR.new w6 (less out i) a3 n3 c3 a6 (nb3 - 1) p6 _, hm.keep (ext_alloc (Below.refl _ _) _), (hb5w g6.size).symm⟩ | exact ⟨wr.heap.size + 1, a6, p6, rfl, ext_set (ext_set (ext_set g6 (Nat.le_succ _) _) (Nat.le_succ _) _) (Nat.le_succ _) _, VR.put (less out i) a3 n3 c3 a6 (nb3 - 1) p6, hm.put VR (less out i) a3 n3 c3 a6 (nb3 - 1) p6, (hb5w (Nat.le_succ _)).symm⟩ | exact ⟨wr.heap.size, a6, p6, rfl, ext_set (ext_set (ext_set g6 (Nat.le_refl _) _) (Nat.le_refl _) _) (Nat.le_refl _) _, VR.put (less out i) a3 n3 c3 a6 (nb3 - 1) p6, hm.put VR (less out i) a3 n3 c3 a6 (nb3 - 1) p6, (hb5w (Nat.le_refl _)).symm⟩
            · go_region_held3 (fun w' => w'.cell? ⟨b5, 0, none⟩ = some (.string out.head.pred) ∧ w'.cell? ⟨b5, 1, none⟩ = some (.slice a3 n3 c3) ∧ w'.cell? ⟨b5, 2, none⟩ = some (.slice (some ⟨b3', o3', none⟩) nb3 k3))
                (first | go_keep | exact ⟨keep g6 z0, keep g6 z1, keep g6 z2⟩ | exact ⟨keep (ext_alloc g6 _) z0, keep (ext_alloc g6 _) z1, keep (ext_alloc g6 _) z2⟩ | exact ⟨((HS.out.var.keep g6).put_other (hb5w (Nat.le_refl _)) VR (less out i) a3 n3 c3 a6 (nb3 - 1) p6).c0, ((HS.out.var.keep g6).put_other (hb5w (Nat.le_refl _)) VR (less out i) a3 n3 c3 a6 (nb3 - 1) p6).c1, ((HS.out.var.keep g6).put_other (hb5w (Nat.le_refl _)) VR (less out i) a3 n3 c3 a6 (nb3 - 1) p6).c2⟩ | exact ⟨((HS.out.var.keep g6).put_other (hb5w (Nat.le_succ _)) VR (less out i) a3 n3 c3 a6 (nb3 - 1) p6).c0, ((HS.out.var.keep g6).put_other (hb5w (Nat.le_succ _)) VR (less out i) a3 n3 c3 a6 (nb3 - 1) p6).c1, ((HS.out.var.keep g6).put_other (hb5w (Nat.le_succ _)) VR (less out i) a3 n3 c3 a6 (nb3 - 1) p6).c2⟩ | fail)
                (first | (go_at_call 54; (with_reducible refine (c_cut ps b3' o3' nb3 k3 i wr _ wr.heap.size _ (if_neg hkk).symm (ext_drew (ext_alloc (Below.refl wr.heap.size wr) _)) (⟨keep (ext_drew (Below.refl _ _)) (two_at wr _ rfl _ _ _).1, keep (ext_drew (Below.refl _ _)) (two_at wr _ rfl _ _ _).2⟩) hpl hn64 hlt9 hcap HCL.out).mono ?_); rintro e w6 ⟨a6, p6, rfl, own6, gV⟩; have g6 := ext_trans (ext_drew (ext_alloc (Below.refl wr.heap.size wr) _)) gV) | (go_at_call 54; (with_reducible refine (c_cut ps b3' o3' nb3 k3 i wr _ wr.heap.size _ (if_neg hkk).symm (ext_drew (ext_alloc (ext_alloc (Below.refl wr.heap.size wr) _) _)) (⟨keep (ext_drew (ext_alloc (Below.refl _ _) _)) (two_at wr _ rfl _ _ _).1, keep (ext_drew (ext_alloc (Below.refl _ _) _)) (two_at wr _ rfl _ _ _).2⟩) hpl hn64 hlt9 hcap HCL.out).mono ?_); rintro e w6 ⟨a6, p6, rfl, own6, gV⟩; have g6 := ext_trans (ext_drew (ext_alloc (ext_alloc (Below.refl wr.heap.size wr) _) _)) gV; have VR := (VarR.new (wr.alloc (.cells #[.slice (some ⟨b3', o3', none⟩) i k3, .slice (some ⟨b3', o3' + (i + 1) * 8, none⟩) (nb3 - (i + 1)) (k3 - (i + 1))] 25)) noRule none 0 0 none 0 0 27).keep (ext_trans (ext_drew (Below.refl _ _)) gV); rw [World.size_alloc] at VR; have t0 := VR.c0; have t1 := VR.c1; have t2 := VR.c2; have t3 := VR.f0; have t4 := VR.f1; have t5 := VR.f2; dsimp only [noRule] at t0) | (go_at_call 54; (with_reducible refine (c_cut ps b3' o3' nb3 k3 i wr _ (wr.heap.size + 1) _ (if_neg hkk).symm (ext_drew (ext_alloc (ext_alloc (Below.refl wr.heap.size wr) _) _)) (⟨keep (ext_drew (Below.refl _ _)) (two_at (wr.alloc _) _ (by simp) _ _ _).1, keep (ext_drew (Below.refl _ _)) (two_at (wr.alloc _) _ (by simp) _ _ _).2⟩) hpl hn64 hlt9 hcap HCL.out).mono ?_); rintro e w6 ⟨a6, p6, rfl, own6, gV⟩; have g6 := ext_trans (ext_drew (ext_alloc (ext_alloc (Below.refl wr.heap.size wr) _) _)) gV; have VR := (VarR.new wr noRule none 0 0 none 0 0 27).keep (ext_trans (ext_drew (ext_alloc (Below.refl _ _) _)) gV); have t0 := VR.c0; have t1 := VR.c1; have t2 := VR.c2; have t3 := VR.f0; have t4 := VR.f1; have t5 := VR.f2; dsimp only [noRule] at t0) | fail)
              all_goals
                go_wp2
                go_meet
                have hm : RuleV w6 (less out i) a3 n3 c3 a6 (nb3 - 1) p6 := less_rule HS.out.rule g6 HPS.out HOK.out hlt9 own6
                first | exact ⟨w6.heap.size, a6, p6, rfl, ext_alloc g6 _, VarR.new w6 (less out i) a3 n3 c3 a6 (nb3 - 1) p6 _, hm.keep (ext_alloc (Below.refl _ _) _), (hb5w g6.size).symm⟩ | exact ⟨wr.heap.size + 1, a6, p6, rfl, ext_set (ext_set (ext_set g6 (Nat.le_succ _) _) (Nat.le_succ _) _) (Nat.le_succ _) _, VR.put (less out i) a3 n3 c3 a6 (nb3 - 1) p6, hm.put VR (less out i) a3 n3 c3 a6 (nb3 - 1) p6, (hb5w (Nat.le_succ _)).symm⟩ | exact ⟨wr.heap.size, a6, p6, rfl, ext_set (ext_set (ext_set g6 (Nat.le_refl _) _) (Nat.le_refl _) _) (Nat.le_refl _) _, VR.put (less out i) a3 n3 c3 a6 (nb3 - 1) p6, hm.put VR (less out i) a3 n3 c3 a6 (nb3 - 1) p6, (hb5w (Nat.le_refl _)).symm⟩
          case rest =>
            obtain ⟨b7, a7, c7, rfl, e7, V7, R7, hne⟩ := hcut
            have HS7 := Lib.hid (show MinSt w b5 R out i a3 n3 c3 (some ⟨b3', o3', none⟩) nb3 k3 wc from ⟨ext_trans HS.out.old e7, HS.out.low, HS.out.res.keep e7, HS.out.var.keep e7, HS.out.rule.keep e7, HS.out.plain, HS.out.law, HS.out.le⟩)
            have y0 := V7.c0
            have y1 := V7.c1
            have y2 := V7.c2
            have u0 := keep e7 z0
            have u1 := keep e7 z1
            have u2 := keep e7 z2
            have VV := Lib.hid V7
            have Z2 := Lib.hid z2
            have ROUND := Lib.hid (HS.out.law.symm.trans (minGo_round (by rw [HLEN.out]; exact hlt9)))
            have RR := Lib.hid R7
            clear e7 V7 R7 z0 z1 z2 HPS HOK HCL hpl
            obtain ⟨bp, hbp⟩ : ∃ b, plain (less out i) = b := ⟨_, rfl⟩
            have PL := Lib.hid hbp
            clear hbp
            go_upto_if 43 with (go_at_call 15; (with_reducible refine (c_Plain (less out i) _ _ _ _ _ _ _ RR.out).mono ?_); rw [PL.out]; rintro e w8 ⟨rfl, h8⟩)
            cases bp with
            | false =>
              have HS9 := HS7.out.keep h8
              have n2 := HS9.var.c2
              go_wp2
              go_roundw
              case rel => exact ⟨out, i + 1, a3, n3, c3, _, nb3, k3, by go_num, HS9.next (by omega) (by rw [ROUND.out, if_pos PL.out])⟩
              case measure =>
                rw [Z2.out, n2]
                simp [intOf, lenOf]
                omega
            | true =>
              have y0 := keep h8 y0
              have y1 := keep h8 y1
              have y2 := keep h8 y2
              have u0 := keep h8 u0
              have u1 := keep h8 u1
              have u2 := keep h8 u2
              have RR8 := Lib.hid (RR.out.keep h8)
              have VV8 := Lib.hid (VV.out.keep h8)
              have HS8 := Lib.hid (HS7.out.keep h8)
              clear h8 HS7 RR VV
              obtain ⟨E, hE⟩ : ∃ b, (laid (less out i) out).1 = b := ⟨_, rfl⟩
              obtain ⟨B, hB⟩ : ∃ b, (laid (less out i) out).2.isSome = b := ⟨_, rfl⟩
              have EH := Lib.hid hE
              have BH := Lib.hid hB
              clear hE hB
              go_upto_region 14 with (go_at_call 16; (with_reducible refine (c_Within (less out i) out _ _ _ _ _ _ _ _ _ _ _ _ w8 RR8.out HS8.out.rule).mono ?_); rw [EH.out, BH.out]; rintro e w9 ⟨rfl, h9⟩)
              have HS9 := Lib.hid (HS8.out.keep h9)
              by_cases h0 : E = 0
              · subst h0
                cases B with
                | false =>
                  have HS9 := HS9.out
                  have n2 := HS9.var.c2
                  go_wp2
                  go_roundw
                  case rel => exact ⟨out, i + 1, a3, n3, c3, _, nb3, k3, by go_num, HS9.next (by omega) (by rw [ROUND.out, if_neg (by rw [PL.out]; simp), if_neg (by rw [EH.out]; simp), if_neg (by rw [BH.out]; simp)])⟩
                  case measure =>
                    rw [Z2.out, n2]
                    simp [intOf, lenOf]
                    omega
                | true =>
                  have m0 := HS9.out.var.c0
                  have m1 := HS9.out.var.c1
                  have m2 := HS9.out.var.c2
                  have f0 := HS9.out.var.f0
                  have f1 := HS9.out.var.f1
                  have f2 := HS9.out.var.f2
                  have y0 := keep h9 y0
                  have y1 := keep h9 y1
                  have y2 := keep h9 y2
                  have FIN := HS9.out.cut hlt9 (RR8.out.keep h9) PL.out (by rw [ROUND.out, if_neg (by rw [PL.out]; simp), if_neg (by rw [EH.out]; simp), if_pos BH.out])
                  have n2 := FIN.var.c2
                  have FH := Lib.hid FIN
                  have N2 := Lib.hid n2
                  clear FIN n2
                  go_wp2
                  go_roundw
                  case rel => exact ⟨less out i, i, a3, n3, c3, a7, nb3 - 1, c7, by go_num, FH.out⟩
                  case measure =>
                    have hm := N2.out
                    rw [Z2.out]
                    first | rw [hm] | skip
                    simp [intOf, lenOf]
                    omega
              · have h0' : (E != 0) = true := by simpa using h0
                have v0 := HS9.out.res.c0
                have v1 := HS9.out.res.c1
                have v2 := HS9.out.res.c2
                have f0 := HS9.out.res.f0
                have f1 := HS9.out.res.f1
                have f2 := HS9.out.res.f2
                dsimp only [noRule] at v0
                go_wp2
                have P := HS9.out.res.put noRule none 0 0 none 0 0
                have S0 := P.c0
                have S1 := P.c1
                have S2 := P.c2
                dsimp only [noRule] at S0 S1 S2
                have E6 : Ext w (((w9.setCell ⟨w.heap.size + 1, 0, none⟩ (.string ⟨#[]⟩)).setCell ⟨w.heap.size + 1, 1, none⟩ (.slice none 0 0)).setCell ⟨w.heap.size + 1, 2, none⟩ (.slice none 0 0)) := ext_set (ext_set (ext_set HS9.out.old (Nat.le_succ _) _) (Nat.le_succ _) _) (Nat.le_succ _) _
                clear P
                generalize (((w9.setCell ⟨w.heap.size + 1, 0, none⟩ (.string ⟨#[]⟩)).setCell ⟨w.heap.size + 1, 1, none⟩ (.slice none 0 0)).setCell ⟨w.heap.size + 1, 2, none⟩ (.slice none 0 0)) = W6 at S0 S1 S2 E6 ⊢
                refine bodyPost_ret (by simp [results, Try.results29, go_sem, S0, S1, S2]; try rfl) rfl ?_
                obtain rfl : R = (E, none) := by rw [ROUND.out, if_neg (by rw [PL.out]; simp), if_pos (by rw [EH.out]; exact h0), EH.out]
                exact ⟨none, 0, 0, none, 0, 0, rfl, noRuleV _, E6⟩
end Go.Proofs.Ytcphjfggjjonpaa
