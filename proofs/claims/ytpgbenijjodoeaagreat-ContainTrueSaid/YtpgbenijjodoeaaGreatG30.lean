/- The walk of the join's vars. -/
import Derived.Test.YtpgbenijjodoeaaGreatG18
import Derived.Test.YtpgbenijjodoeaaGreatG29
namespace Go.Proofs.YtpgbenijjodoeaaGreat
open Go.ChangeShapes Go.WideShapes Go.ChangeAt Go.RowKit
open K (Term Atom Rule TermsAt LitsAt RuleV termAt litAt)
def varStep (k : Int) (out : List ByteArray) (t : Term) : List ByteArray := if k = 1 ∧ t.kind = 1 ∧ t.text ∉ out then out ++ [t.text] else out
def varsL (out : List ByteArray) (l : K.Lit) : List ByteArray := l.atom.terms.foldl (varStep l.kind) out
/-- The variables of the positive atoms, in order. -/
def varsR (r : Rule) : List ByteArray := r.body.foldl varsL []
theorem varStep_len (k : Int) (out : List ByteArray) (t : Term) : out.length ≤ (varStep k out t).length := by
  unfold varStep
  split <;> simp
theorem fold_len (k : Int) (ts : List Term) : ∀ out : List ByteArray, out.length ≤ (ts.foldl (varStep k) out).length := by
  induction ts with
  | nil => intro out; exact Nat.le_refl _
  | cons t ts ih => intro out; exact Nat.le_trans (varStep_len k out t) (ih _)
theorem foldL_len (ls : List K.Lit) : ∀ out : List ByteArray, out.length ≤ (ls.foldl varsL out).length := by
  induction ls with
  | nil => intro out; exact Nat.le_refl _
  | cons l ls ih => intro out; exact Nat.le_trans (fold_len l.kind l.atom.terms out) (ih _)
theorem vars_part {r : Rule} {k j : Nat} {l : K.Lit} (h : r.body[k]? = some l) : ((l.atom.terms.take j).foldl (varStep l.kind) ((r.body.take k).foldl varsL [])).length ≤ (varsR r).length := by
  have e : varsR r = (r.body.drop (k + 1)).foldl varsL ((l.atom.terms.drop j).foldl (varStep l.kind) ((l.atom.terms.take j).foldl (varStep l.kind) ((r.body.take k).foldl varsL []))) := by
    rw [← List.foldl_append, List.take_append_drop]
    show _ = (r.body.drop (k + 1)).foldl varsL (varsL _ l)
    rw [← List.foldl_cons, ← drop_at h, ← List.foldl_append, List.take_append_drop]
    rfl
  rw [e]
  exact Nat.le_trans (fold_len _ _ _) (foldL_len _ _)
def VarsPost (xs : List ByteArray) (w : World) (e : Ending) (w' : World) : Prop := ∃ a c, e = .returned (.slice a xs.length c) ∧ StrsAt w' a xs.length xs ∧ (a = none → xs.length = 0 ∧ c = 0) ∧ (∀ b, (Value.slice a xs.length c).ownBlock = some b → w.heap.size ≤ b ∧ b < w'.heap.size) ∧ Ext w w'
def VarSt (w wj : World) (out : List ByteArray) (v : Value) : Prop := wj.ownsRow w.heap.size 9 1 v out.length (out.map Value.string) ∧ Ext w wj
theorem VarSt.ext {w W W' : World} {out : List ByteArray} {v : Value} (h : VarSt w W out v) (e : Ext W W') : VarSt w W' out v := ⟨up_ext h.1 e, ext_trans h.2 e⟩
theorem VarSt.strs {w W : World} {out : List ByteArray} {a : Option Addr} {c : Nat} (h : VarSt w W out (.slice a out.length c)) : StrsAt W a out.length out := own_strs h.1 (own_len h.1).1
set_option maxRecDepth 100000 in
set_option maxHeartbeats 4000000 in
theorem c_vars (r : Rule) (ah : Option Addr) (nh ch : Nat) (ab : Option Addr) (nb cb : Nat) (w : World) (hr : RuleV w r ah nh ch ab nb cb) (hv : (varsR r).length ≤ 1000000) :
    Calls Tryz.prog 47 #[.agg #[.string r.head.pred, .slice ah nh ch, .slice ab nb cb]] w (VarsPost (varsR r) w) := by
  obtain ⟨i0, hi, hz0, hz1, hz2⟩ := info_parts info_str
  have HR := Lib.hid hr
  have HLB := Lib.hid hr.body.2.1
  have HV := Lib.hid hv
  have hn := hr.body.1
  clear hr hv
  have E0 : Hid (∀ o, Ext w (w.alloc o)) := fun o => ext_alloc (Below.refl _ _) o
  go_enter Tryz.func47, Tryz.ntmps47
  go_wp2
  go_loopw [3, 11] (fun v u wj => ∃ k : Nat, k ≤ nb ∧ u = .int .i64 k ∧ VarSt w wj ((r.body.take k).foldl varsL []) v) (fun _ u _ => nb - (intOf u).toNat)
  case atStart => exact ⟨0, by omega, rfl, World.ownsRow_nil _ _ _ _, E0.out _⟩
  case round =>
    obtain ⟨k, hk, rfl, hst⟩ := hrel
    have ST := Lib.hid hst
    clear hst
    by_cases hlt : k < nb
    · have hki : (k : Int) < (nb : Int) := by omega
      obtain ⟨l, bl, off, hx, rfl, al, nl, cl, h0, h1, h2, h3, h4, h5, h6, h7, h8, h9, h10, h11, h12⟩ := (HR.out.body.keep ST.out.2).2.at hlt
      have HX := Lib.hid hx
      have HTK : Hid (r.body.take (k + 1) = r.body.take k ++ [l]) := take_at hx
      have HTM : Hid (TermsAt w al nl l.atom.terms) := by
        obtain ⟨l', bl', off', hx', e', al', nl', cl', _, _, q2, _, _, _, _, _, q8, _⟩ := HR.out.body.2.at hlt
        rw [hx] at hx'
        cases hx'
        cases e'
        have := keep ST.out.2 q2
        rw [h2] at this
        cases this
        exact q8
      have HLT := Lib.hid h8.2.1
      have hnl := h8.1
      clear hx h8 h9 h10 h11 h12
      obtain ⟨b1, e1⟩ : ∃ b, (l.kind == 1) = b := ⟨_, rfl⟩
      have K1 : Hid ((l.kind = 1) ↔ b1 = true) := by show _ ↔ _; rw [← e1]; simp
      go_wp2
      obtain ⟨p5, hp5⟩ : ∃ p5, p5 = wr.heap.size := ⟨_, rfl⟩
      rw [← hp5]
      have EL : Hid (∀ o, VarSt w (wr.alloc o) ((r.body.take k).foldl varsL []) u3) := fun o => ST.out.ext (ext_alloc (Below.refl _ _) o)
      have CK : Hid ((wr.alloc (.cells #[.int .i64 l.kind, .string l.atom.pred, .slice al nl cl, .int .i64 l.op, .int .i64 l.left.kind, .string l.left.text, .int .i64 l.right.kind, .string l.right.text] 56)).cell? ⟨p5, 0, none⟩ = some (.int .i64 l.kind)) := by show _ = _; rw [hp5]; go_simp
      have HP5 : Hid (p5 = wr.heap.size) := hp5
      clear hp5 h0 h1 h2 h3 h4 h5 h6 h7
      obtain ⟨out0, hout0⟩ : ∃ out0, (r.body.take k).foldl varsL [] = out0 := ⟨_, rfl⟩
      have HO0 := Lib.hid hout0
      rw [hout0] at EL
      have HNX : Hid (∀ o : List ByteArray, o = l.atom.terms.foldl (varStep l.kind) out0 → (r.body.take (k + 1)).foldl varsL [] = o) := fun o ho => by rw [HTK.out, List.foldl_append, HO0.out, ho]; rfl
      have HLE : Hid (∀ j, ((l.atom.terms.take j).foldl (varStep l.kind) out0).length ≤ 1000000) := fun j => by
        have := vars_part (j := j) HX.out
        rw [HO0.out] at this
        exact Nat.le_trans this HV.out
      clear hout0
      go_loopw [3, 19] (fun v u wj => ∃ j : Nat, j ≤ nl ∧ u = .int .i64 j ∧ VarSt w wj ((l.atom.terms.take j).foldl (varStep l.kind) out0) v ∧ wj.cell? ⟨p5, 0, none⟩ = some (.int .i64 l.kind) ∧ v.ownBlock ≠ some p5) (fun _ u _ => nl - (intOf u).toNat)
      case atStart => exact ⟨0, by omega, rfl, EL.out _, CK.out, fun e => by have := (ST.out.1.lt _ e).2; have := HP5.out; omega⟩
      case round =>
        obtain ⟨j, hj, rfl, hst, ck, hne⟩ := hrel
        have HNE := Lib.hid hne
        clear hne
        obtain ⟨out, hout⟩ : ∃ out, (l.atom.terms.take j).foldl (varStep l.kind) out0 = out := ⟨_, rfl⟩
        rw [hout] at hst
        have HOUT := Lib.hid hout
        obtain ⟨a3, c3, rfl, _⟩ := own_form hst.1
        have SJ := Lib.hid hst
        clear hst hout
        by_cases hlj : j < nl
        · have hji : (j : Int) < (nl : Int) := by omega
          obtain ⟨t, bt, ot, hx, rfl, hc1, hc2, hc3⟩ := (HTM.out.keep SJ.out.2).2.at hlj
          have HTJ : Hid ((l.atom.terms.take (j + 1)).foldl (varStep l.kind) out0 = varStep l.kind out t) := by
            show _ = _
            rw [take_at hx, List.foldl_append, HOUT.out]
            rfl
          have hol : out.length ≤ 1000000 := by
            have := HLE.out j
            rwa [HOUT.out] at this
          clear hx
          obtain ⟨b2, e2⟩ : ∃ b, (t.kind == 1) = b := ⟨_, rfl⟩
          have K2 : Hid ((t.kind = 1) ↔ b2 = true) := by show _ ↔ _; rw [← e2]; simp
          have ck2 : ∀ o, (wr.alloc o).cell? ⟨p5, 0, none⟩ = some (.int .i64 l.kind) := fun o => keep (ext_alloc (Below.refl _ _) o) ck
          have SA : Hid (∀ o, VarSt w (wr.alloc o) out (.slice a3 out.length c3)) := fun o => SJ.out.ext (ext_alloc (Below.refl _ _) o)
          have CN : Hid (∀ o, Calls Tryz.prog 49 #[.slice a3 out.length c3, .string t.text] (wr.alloc o) fun e w' => e = .returned (.bool (decide (0 ≤ idxB out t.text))) ∧ w' = wr.alloc o) := fun o => c_containsS out t.text a3 _ c3 _ (SA.out o).strs
          cases b1 with
          | false =>
            have HQ : Hid (varStep l.kind out t = out) := by
              show _ = _
              unfold varStep
              rw [if_neg (fun h => absurd (K1.out.1 h.1) (by simp))]
            go_wp2
            go_roundw
            case rel => exact ⟨j + 1, by omega, by go_num, by rw [HTJ.out, HQ.out]; exact SA.out _, ck2 _, HNE.out⟩
            case measure => simp [intOf]; omega
          | true =>
            cases b2 with
            | false =>
              have HQ : Hid (varStep l.kind out t = out) := by
                show _ = _
                unfold varStep
                rw [if_neg (fun h => absurd (K2.out.1 h.2.1) (by simp))]
              go_wp2
              go_roundw
              case rel => exact ⟨j + 1, by omega, by go_num, by rw [HTJ.out, HQ.out]; exact SA.out _, ck2 _, HNE.out⟩
              case measure => simp [intOf]; omega
            | true =>
              obtain ⟨b3, e3⟩ : ∃ b, decide (0 ≤ idxB out t.text) = b := ⟨_, rfl⟩
              rw [e3] at CN
              have K3 : Hid (t.text ∈ out ↔ b3 = true) := by show _ ↔ _; rw [← e3, decide_eq_true_eq, idxB_nonneg]
              clear e3
              cases b3 with
              | true =>
                have HQ : Hid (varStep l.kind out t = out) := by
                  show _ = _
                  unfold varStep
                  rw [if_neg (fun h => h.2.2 (K3.out.2 rfl))]
                go_wp2_with (go_at_call 49; (with_reducible refine (CN.out _).mono ?_); rintro e w2 ⟨rfl, hw2⟩; obtain rfl := hw2.symm)
                go_roundw
                case rel => exact ⟨j + 1, by omega, by go_num, by rw [HTJ.out, HQ.out]; exact SA.out _, ck2 _, HNE.out⟩
                case measure => simp [intOf]; omega
              | false =>
                have HQ : Hid (varStep l.kind out t = out ++ [t.text]) := by
                  show _ = _
                  unfold varStep
                  rw [if_pos ⟨K1.out.2 rfl, K2.out.2 rfl, fun h => absurd (K3.out.1 h) (by simp)⟩]
                have HZ : Hid (∀ o o', w.heap.size ≤ ((wr.alloc o).alloc o').heap.size) := fun o o' => (ext_alloc (ext_alloc SJ.out.2 o) o').size
                go_wp2_with (first
                  | (go_at_call 49; (with_reducible refine (CN.out _).mono ?_); rintro e w2 ⟨rfl, hw2⟩; obtain rfl := hw2.symm)
                  | (at_builtin; go_loud (refine wpList_append_lies _ rfl _ _ 46 rfl w.heap.size 9 i0 (.string ⟨#[]⟩) 1 16 Tryz.underlying46 hi hz0 hz1 hz2 rfl (by decide) _ out.length (out.map Value.string) rfl (((SA.out _).ext (ext_alloc (Below.refl _ _) _)).1) ⟨wr.heap.size + 1, 0, none⟩ 1 1 [.string t.text] rfl rfl (by have := news1 (wr.alloc (.cells #[.int .i64 t.kind, .string t.text] 53)) (.string t.text) 9; simpa using this) (fun x hx => by cases List.mem_singleton.1 hx; rfl) (Nat.zero_lt_one) (by unfold maxLen; omega) (by omega) (HZ.out _ _) _ rfl ?_); intro g7 p7 w7 own7 q7 hat7 hlt7))
                go_roundw
                case rel =>
                  have hp5 : p5 < wr.heap.size := World.block_lt_of_cell? wr ⟨p5, 0, none⟩ ck
                  refine ⟨j + 1, by omega, by go_num, ?_, ?_, ?_⟩
                  · rw [HTJ.out, HQ.out]
                    refine ⟨by rw [List.length_append, List.map_append]; exact own7, ?_⟩
                    exact ext_ownB (((SA.out _).ext (ext_alloc (Below.refl _ _) _)).2) q7 (fun g hg => (SJ.out.1.lt g hg).1)
                  · rw [← ck]
                    exact World.cell?_of_block ((q7.block p5 (by simp; omega) (fun e => HNE.out e.symm)).trans ((ext_alloc (ext_alloc (Below.refl _ wr) _) _).block p5 hp5))
                  · intro e
                    cases e
                    rcases hat7 with h | h
                    · exact HNE.out h
                    · rw [h] at hp5
                      simp at hp5
                      try omega
                case measure => simp [intOf]; omega
        · obtain rfl : j = nl := by omega
          have hge : ¬ (j : Int) < (j : Int) := by omega
          have HALL : Hid (l.atom.terms.take j = l.atom.terms) := List.take_of_length_le (by have := HLT.out; omega)
          go_wp2
          go_roundw
          case rel => exact ⟨k + 1, by omega, by go_num, by rw [HNX.out out (by rw [← HOUT.out, HALL.out])]; exact SJ.out⟩
          case measure => simp [intOf]; omega
    · obtain rfl : k = nb := by omega
      have hge : ¬ (k : Int) < (k : Int) := by omega
      have HALL : Hid ((r.body.take k).foldl varsL [] = varsR r) := by
        show _ = _
        rw [List.take_of_length_le (by have := HLB.out; omega)]
        rfl
      rw [HALL.out] at ST
      obtain ⟨a3, c3, rfl, hc3⟩ := own_form ST.out.1
      have CL := Lib.hid (c_clipS a3 (varsR r).length c3 wr hc3 (fun h => (cap_of_own ST.out.1).2 h |>.2))
      go_wp2_with (go_at_call 55; (with_reducible refine CL.out.mono ?_); rintro e w2 ⟨rfl, hw2⟩; obtain rfl := hw2.symm)
      go_returns
      refine ⟨a3, _, rfl, ST.out.strs, fun h => ?_, fun b hb => ST.out.1.lt b (by cases a3 <;> first | exact hb | cases hb), ST.out.2⟩
      have := (cap_of_own ST.out.1).2 h
      exact ⟨this.1, this.1⟩
end Go.Proofs.YtpgbenijjodoeaaGreat
