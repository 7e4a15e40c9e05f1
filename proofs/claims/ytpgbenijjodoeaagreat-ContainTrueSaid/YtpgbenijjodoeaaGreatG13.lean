/- The walks of contain.Plain and what it calls: it tells whether a rule is plain, and writes nothing that was there. -/
import Derived.Test.YtpgbenijjodoeaaGreatG4
import Derived.Test.YtpgbenijjodoeaaGreatG12
namespace Go.Proofs.YtpgbenijjodoeaaGreat.K
open Go.ChangeShapes Go.WideShapes Go.ChangeAt Go.RowKit
/-- The map that says true of these names. -/
def stm (vs : List ByteArray) : ByteArray → Option Value := fun k => if k ∈ vs then some (.bool true) else none
theorem stm_upd (vs : List ByteArray) (k : ByteArray) : upd (stm vs) k (some (.bool true)) = stm (vs ++ [k]) := by
  funext x
  by_cases h : x = k <;> by_cases h2 : x ∈ vs <;> simp [upd, stm, h, h2]
theorem zero_bool (w : World) : (zeroValue 4).run Tryz.prog w = .ok (.bool false) w := by kernel_rfl
theorem stm_get (vs : List ByteArray) (k : ByteArray) : (stm vs k).getD (.bool false) = .bool (decide (k ∈ vs)) := by
  by_cases h : k ∈ vs <;> simp [stm, h]
theorem c_bad (t : Term) (vs : List ByteArray) (pb : Addr) (mb : Nat) (w : World) (hc : w.cell? pb = some (.map (some mb))) (hm : SMap w mb (stm vs)) :
    Calls Tryz.prog 64 #[.agg #[.int .i64 t.kind, .string t.text], .pointer (some pb)] w fun e w' => e = .returned (.bool (badT vs t)) ∧ Ext w w' := by
  have hl := run_look (P := Tryz.prog) (t := 118) (hm.ext (ext_alloc (Below.refl _ _) (.cells #[.int .i64 t.kind, .string t.text] 53))) Tryz.underlying118 Tryz.underlying9 (zero_bool _) t.text false
  simp only [stm_get, Bool.false_eq_true, if_false] at hl
  have hc' : (w.alloc (.cells #[.int .i64 t.kind, .string t.text] 53)).cell? pb = some (.map (some mb)) := keep (ext_alloc (Below.refl _ _) _) hc
  obtain ⟨b1, e1⟩ : ∃ b, (t.kind != 3) = b := ⟨_, rfl⟩
  obtain ⟨b2, e2⟩ : ∃ b, (t.kind == 1) = b := ⟨_, rfl⟩
  obtain ⟨b3, e3⟩ : ∃ b, decide (t.text ∈ vs) = b := ⟨_, rfl⟩
  have fin : Hid (badT vs t = (b1 && !(b2 && b3))) := by
    show _ = _
    subst e1 e2 e3
    simp [badT, Bool.beq_eq_decide_eq]
    try grind
  rw [e3] at hl
  clear e3 hm hc
  cases b1 <;> cases b2
  all_goals
    go_enter Tryz.func64, Tryz.ntmps64
    go_wp2
    go_ret
    refine ⟨ret_bool ?_, ext_alloc (Below.refl _ _) _⟩
    rw [fin.out]
    simp
def IdxInv (ts : List Term) (vs : List ByteArray) (n : Nat) (W : World) (i : Value) (wr : World) : Prop :=
  ∃ k : Nat, k ≤ n ∧ i = .int .i64 k ∧ Ext W wr ∧ ts.any (badT vs) = (ts.drop k).any (badT vs)
def IdxPost (b : Bool) (w : World) (e : Ending) (w' : World) : Prop := ∃ i : Int, e = .returned (.int .i64 i) ∧ decide (0 ≤ i) = b ∧ Ext w w'
theorem c_IndexFunc (ts : List Term) (a : Option Addr) (n cap : Nat) (vs : List ByteArray) (pb : Addr) (mb : Nat) (w : World) (ht : TermsAt w a n ts) (hc : w.cell? pb = some (.map (some mb))) (hm : SMap w mb (stm vs)) :
    Calls Tryz.prog 50 #[.slice a n cap, .func (.func 64) #[] #[.pointer (some pb)]] w (IdxPost (ts.any (badT vs)) w) := by
  have hn := ht.1
  have HL := Lib.hid ht.2.1
  have HT := Lib.hid ht
  have HC := Lib.hid hc
  have HM := Lib.hid hm
  clear ht hc hm
  go_enter Tryz.func50, Tryz.ntmps50
  go_wp2
  go_loopw [8] (fun i wr => IdxInv ts vs n w i wr) (fun i _ => n - (intOf i).toNat)
  case atStart => exact ⟨0, by omega, rfl, Below.refl _ _, by simp⟩
  case round =>
    obtain ⟨k, hk, rfl, hb, hq⟩ := hrel
    have HQ := Lib.hid hq
    clear hq
    by_cases hlt : k < n
    · obtain ⟨t, bt, off, hx, rfl, hc1, hc2, hc3⟩ := (HT.out.keep hb).2.at hlt
      have HX := Lib.hid (drop_at hx)
      clear hx
      go_wp2_with (go_at_call 64; (with_reducible refine (c_bad t vs pb mb _ (keep hb HC.out) (HM.out.ext hb)).mono ?_); rintro e w2 ⟨rfl, hb2⟩)
      · go_ret
        refine ⟨_, rfl, ?_, ext_trans hb hb2⟩
        rw [HQ.out, HX.out]
        simp_all
      · go_roundw
        case rel => exact ⟨k + 1, by omega, by go_num, ext_trans hb hb2, by rw [HQ.out, HX.out]; simp_all⟩
        case measure => simp [intOf]; omega
    · go_wp2
      go_ret
      refine ⟨_, rfl, ?_, hb⟩
      rw [HQ.out, List.drop_of_length_le (by have := HL.out; omega)]
      rfl
theorem c_ContainsFunc (ts : List Term) (a : Option Addr) (n cap : Nat) (vs : List ByteArray) (pb : Addr) (mb : Nat) (w : World) (ht : TermsAt w a n ts) (hc : w.cell? pb = some (.map (some mb))) (hm : SMap w mb (stm vs)) :
    Calls Tryz.prog 25 #[.slice a n cap, .func (.func 64) #[] #[.pointer (some pb)]] w fun e w' => e = .returned (.bool (ts.any (badT vs))) ∧ Ext w w' := by
  go_enter Tryz.func25, Tryz.ntmps25
  go_wp2_with (go_at_call 50; (with_reducible refine (c_IndexFunc ts _ _ _ vs pb mb _ ht hc hm).mono ?_); rintro e w2 ⟨i, rfl, hi, hb2⟩)
  go_ret
  exact ⟨rfl, hb2⟩
theorem gb_trans {a b c : World} {row : Option Nat} (h : a.grownBy b row) (k : b.grownBy c row) : a.grownBy c row :=
  ⟨k.os.trans h.os, k.tape.trans h.tape, k.output.trans h.output, Nat.le_trans h.size k.size, fun i hi hne => (k.block i (Nat.lt_of_lt_of_le hi h.size) hne).trans (h.block i hi hne)⟩
theorem gb_refl (a : World) (row : Option Nat) : a.grownBy a row := ⟨rfl, rfl, rfl, Nat.le_refl _, fun _ _ _ => rfl⟩
/-- w0: when the call began; W: when its map had been made in block mb; wr: now. -/
structure MapSt (w0 W wr : World) (mb : Nat) (f : ByteArray → Option Value) : Prop where
  old : Ext w0 wr
  beside : W.grownBy wr (some mb)
  map : SMap wr mb f
theorem MapSt.alloc {w0 W wr : World} {mb : Nat} {f : ByteArray → Option Value} (h : MapSt w0 W wr mb f) (o : Obj) : MapSt w0 W (wr.alloc o) mb f :=
  ⟨ext_alloc h.old _, gb_trans h.beside (World.grownBy_alloc _ _ _), h.map.ext (ext_alloc (Below.refl _ _) _)⟩
theorem MapSt.grow {w0 W wr w2 : World} {mb : Nat} {f : ByteArray → Option Value} (h : MapSt w0 W wr mb f) (k : Ext wr w2) : MapSt w0 W w2 mb f :=
  ⟨ext_trans h.old k, gb_trans h.beside (gb_of_ext k _), h.map.ext k⟩
theorem MapSt.turn {w0 W wr : World} {mb : Nat} {f g : ByteArray → Option Value} {o : Obj} (h : MapSt w0 W wr mb f) (hm : w0.heap.size ≤ mb) (hg : SMap (setMap wr mb o) mb g) : MapSt w0 W (setMap wr mb o) mb g :=
  ⟨h.old.trans (setMap_below hm), gb_trans h.beside (setMap_grown _ _ _), hg⟩
theorem MapSt.cell {w0 W wr : World} {mb : Nat} {f : ByteArray → Option Value} (h : MapSt w0 W wr mb f) {p : Addr} {v : Value} (hp : W.cell? p = some v) (hne : p.block ≠ mb) : wr.cell? p = some v :=
  h.beside.cell hp (fun e => hne (Option.some.inj e))
def PlainOut (ls : List Lit) (n : Nat) (w0 W : World) (mb : Nat) (i : Value) (wr : World) : Prop :=
  ∃ k : Nat, k ≤ n ∧ i = .int .i64 k ∧ MapSt w0 W wr mb (stm (bodyVars (ls.take k))) ∧ (ls.take k).all (fun l => decide (l.kind = 1)) = true
def PlainIn (ts : List Term) (n : Nat) (vs : List ByteArray) (w0 W : World) (mb : Nat) (i : Value) (wr : World) : Prop :=
  ∃ k : Nat, k ≤ n ∧ i = .int .i64 k ∧ MapSt w0 W wr mb (stm (vs ++ termVars (ts.take k)))
theorem plain_lit {r : Rule} {k : Nat} {l : Lit} (h : r.body[k]? = some l) (hk : (l.kind != 1) = true) : plain r = false := by
  have hm := List.mem_of_getElem? h
  have : r.body.all (fun l => decide (l.kind = 1)) = false := by
    rw [List.all_eq_false]
    exact ⟨l, hm, by simpa using hk⟩
  simp [plain, this]
theorem termVars_snoc (ts : List Term) (t : Term) : termVars (ts ++ [t]) = termVars ts ++ (if t.kind = 1 then [t.text] else []) := by
  by_cases h : t.kind = 1 <;> simp [termVars, h]
theorem c_Plain (r : Rule) (ah : Option Addr) (nh ch : Nat) (ab : Option Addr) (nb cb : Nat) (w : World) (hr : RuleV w r ah nh ch ab nb cb) :
    Calls Tryz.prog 39 #[.agg #[.string r.head.pred, .slice ah nh ch, .slice ab nb cb]] w fun e w' => e = .returned (.bool (plain r)) ∧ Ext w w' := by
  have hn := hr.body.1
  have HL := Lib.hid hr.body.2.1
  have HR := Lib.hid hr
  clear hr
  have hmm := @run_makeMap Tryz.prog
  obtain ⟨b1, e1⟩ : ∃ b, (mayRule r != 0) = b := ⟨_, rfl⟩
  cases b1 with
  | true =>
    go_enter Tryz.func39, Tryz.ntmps39
    go_wp2_with (go_at_call 38; (with_reducible refine (c_MayRule r _ _ _ _ _ _ _ (HR.out.keep (ext_alloc (Below.refl _ _) _))).mono ?_); rintro e w1 ⟨rfl, hb⟩)
    go_ret
    refine ⟨ret_bool ?_, ext_after hb (ext_alloc (Below.refl _ _) _)⟩
    have : mayRule r ≠ 0 := by simpa using e1
    simp [plain, this]
  | false =>
    go_enter Tryz.func39, Tryz.ntmps39
    go_wp2_with (go_at_call 38; (with_reducible refine (c_MayRule r _ _ _ _ _ _ _ (HR.out.keep (ext_alloc (Below.refl _ _) _))).mono ?_); rintro e w1 ⟨rfl, hb⟩; have d0 : w1.cell? ⟨w.heap.size, 0, none⟩ = some (.string r.head.pred) := keep hb (by go_simp); have d1 : w1.cell? ⟨w.heap.size, 1, none⟩ = some (.slice ah nh ch) := keep hb (by go_simp); have d2 : w1.cell? ⟨w.heap.size, 2, none⟩ = some (.slice ab nb cb) := keep hb (by go_simp); have hz : w.heap.size < w1.heap.size := World.block_lt_of_cell? _ _ d0)
    refine wp_gen (fun W hW => ?_)
    have hb1 : Ext w w1 := ext_after hb (ext_alloc (Below.refl _ _) _)
    have hm0 : w.heap.size ≤ w1.heap.size := hb1.size
    have g0 : MapSt w W W w1.heap.size (stm (bodyVars [])) := by
      refine ⟨?_, gb_refl _ _, ?_⟩
      · rw [hW]; exact ext_trans hb1 (ext_alloc (ext_alloc (Below.refl _ _) _) _)
      · rw [hW]; exact (SMap.made w1).ext (ext_alloc (Below.refl _ _) _)
    have x1 : W.cell? ⟨w.heap.size, 1, none⟩ = some (.slice ah nh ch) := by rw [hW]; exact keep (ext_alloc (ext_alloc (Below.refl _ _) _) _) d1
    have x3 : W.cell? ⟨w1.heap.size + 1, 0, none⟩ = some (.map (some w1.heap.size)) := by rw [hW]; go_simp
    obtain ⟨mb, hmb⟩ : ∃ mb, mb = w1.heap.size := ⟨_, rfl⟩
    rw [← hmb] at g0 x3 hm0 hz ⊢
    clear hW hmb hb d0 d1 d2 hmm
    go_loopw [15] (fun i wr => PlainOut r.body nb w W mb i wr) (fun i _ => nb - (intOf i).toNat)
    case atStart => exact ⟨0, by omega, rfl, by simpa [bodyVars] using g0, rfl⟩
    case round =>
      obtain ⟨k, hk, rfl, hst, hq⟩ := hrel
      have y1 := hst.cell x1 (by simp; omega)
      have y3 := hst.cell x3 (by simp)
      have HQ := Lib.hid hq
      have HS := Lib.hid hst
      clear hq hst
      by_cases hlt : k < nb
      · obtain ⟨l, bt, off, hx, rfl, a, n, cap, h0, h1, h2, h3, h4, h5, h6, h7, ht, hcap, hp, hl, hr⟩ := (HR.out.body).2.at hlt
        have HX := Lib.hid hx
        have g0 := keep HS.out.old h0
        have g1 := keep HS.out.old h1
        have g2 := keep HS.out.old h2
        have g3 := keep HS.out.old h3
        have g4 := keep HS.out.old h4
        have g5 := keep HS.out.old h5
        have g6 := keep HS.out.old h6
        have g7 := keep HS.out.old h7
        have hnt := ht.1
        have HLT := Lib.hid ht.2.1
        have HT := Lib.hid ht
        clear hx h0 h1 h2 h3 h4 h5 h6 h7 ht
        obtain ⟨bk, ek⟩ : ∃ b, (l.kind != 1) = b := ⟨_, rfl⟩
        cases bk with
        | true =>
          go_wp2
          go_ret
          exact ⟨ret_bool (plain_lit HX.out ek).symm, ext_alloc HS.out.old _⟩
        | false =>
          go_wp2
          refine wp_gen (fun Wi hWi => ?_)
          have hin : MapSt w W Wi mb (stm (bodyVars (r.body.take k))) := by rw [hWi]; exact HS.out.alloc _
          clear hWi g0 g1 g2 g3 g4 g5 g6 g7 y1 y3
          go_loopw [26] (fun i wj => PlainIn l.atom.terms n (bodyVars (r.body.take k)) w W mb i wj) (fun i _ => n - (intOf i).toNat)
          case atStart => exact ⟨0, by omega, rfl, by simpa [termVars] using hin⟩
          case round =>
            obtain ⟨j, hj, rfl, hsj⟩ := hrel
            have y3 := hsj.cell x3 (by simp)
            have HJ := Lib.hid hsj
            clear hsj
            by_cases hjt : j < n
            · obtain ⟨t, bt2, off2, hx2, rfl, hc1, hc2, hc3⟩ := (HT.out.keep HJ.out.old).2.at hjt
              have HX2 := Lib.hid hx2
              clear hx2
              obtain ⟨bv, ev⟩ : ∃ b, (t.kind == 1) = b := ⟨_, rfl⟩
              have z3 : (wr.alloc (.cells #[.int .i64 t.kind, .string t.text] 53)).cell? ⟨mb + 1, 0, none⟩ = some (.map (some mb)) := keep (ext_alloc (Below.refl _ _) _) y3
              cases bv with
              | true =>
                obtain ⟨o, hrun, hsm⟩ := run_upd (P := Tryz.prog) (t := 118) (HJ.out.alloc (.cells #[.int .i64 t.kind, .string t.text] 53)).map Tryz.underlying118 Tryz.underlying9 t.text (.bool true)
                have hts : MapSt w W (setMap (wr.alloc (.cells #[.int .i64 t.kind, .string t.text] 53)) mb o) mb (stm (bodyVars (r.body.take k) ++ termVars (l.atom.terms.take (j + 1)))) := by
                  rw [take_at HX2.out, termVars_snoc, if_pos (by simpa using ev), ← List.append_assoc, ← stm_upd]
                  exact (HJ.out.alloc _).turn hm0 hsm
                clear hsm
                go_wp2
                go_roundw
                case rel => exact ⟨j + 1, by omega, by go_num, hts⟩
                case measure => simp [intOf]; omega
              | false =>
                go_wp2
                go_roundw
                case rel => exact ⟨j + 1, by omega, by go_num, by rw [take_at HX2.out, termVars_snoc, if_neg (by simpa using ev), List.append_nil]; exact HJ.out.alloc _⟩
                case measure => simp [intOf]; omega
            · go_wp2
              go_roundw
              case rel => exact ⟨k + 1, by omega, by go_num, by
                have e : l.atom.terms.take j = l.atom.terms := List.take_of_length_le (by have := HLT.out; omega)
                rw [take_at HX.out]
                have h := HJ.out
                rw [e] at h
                simpa [bodyVars] using h, by rw [take_at HX.out, List.all_append, HQ.out]; simpa using ek⟩
              case measure => simp [intOf]; omega
      · go_wp2_with (go_at_call 25; (with_reducible refine (c_ContainsFunc r.head.terms _ _ _ _ _ mb _ (HR.out.terms.keep HS.out.old) y3 HS.out.map).mono ?_); rintro e w2 ⟨rfl, hb2⟩)
        go_ret
        refine ⟨ret_bool ?_, ext_trans HS.out.old hb2⟩
        have hlen := HL.out
        have h1 : r.body.take k = r.body := List.take_of_length_le (by omega)
        have h2 := HQ.out
        rw [h1] at h2 ⊢
        have h3 : mayRule r = 0 := by simpa using e1
        simp [plain, h2, h3]
end Go.Proofs.YtpgbenijjodoeaaGreat.K
