/- The walk of print.Normal. -/
import Derived.Test.YtlalgaioiapjmaaGreatDoorG32
namespace Go.Proofs.YtlalgaioiapjmaaGreatDoor
open Go.ChangeShapes Go.WideShapes Go.ChangeAt Go.RowKit
open K (AL Rule Term Atom TermsAt LitsAt RuleV LitP valsP flatP flatT)
theorem own_far {w : World} {base n c size x off : Nat} {e : TypeId} {xs : List Value} (h : w.ownsRow base e size (.slice (some ⟨x, off, none⟩) n c) n xs) : base ≤ x ∧ x < w.heap.size := by
  rcases h.2 with ⟨h1, _⟩ | ⟨g, c2, cur, hv, _⟩
  · cases h1
  · cases hv
    exact h.lt x rfl
/-- What Normal answers. -/
def NormPost (r : Rule) (w : World) (e : Ending) (w' : World) : Prop :=
  if K.mayRule r = 0 then ∃ ah ch ab nb cb, e = .returned (.tuple #[.agg #[.string r.head.pred, .slice ah r.head.terms.length ch, .slice ab nb cb], .int .i64 0]) ∧ TermsAt w' ah r.head.terms.length (normalV r).head.terms ∧ LitsAt w' ab nb (normalV r).body ∧ Ext w w'
  else e = .returned (.tuple #[.agg #[.string ⟨#[]⟩, .slice none 0 0, .slice none 0 0], .int .i64 (K.mayRule r)]) ∧ Ext w w'
theorem res_ruleN {fn : Func} {t u : Tmp} {tmps : Array Value} {w : World} {b : Nat} {x y z e : Value} (hf : fn.results = #[.cell t 50, .tmp u]) (ht : tmps.getD t undef = .pointer (some ⟨b, 0, none⟩)) (hu : tmps.getD u undef = e) (h : Blk w b 50 [x, y, z]) : (results fn tmps).run Tryz.prog w = .ok (.tuple #[.agg #[x, y, z], e]) w := by
  have h0 := h.cell (i := 0) rfl
  have h1 := h.cell (i := 1) rfl
  have h2 := h.cell (i := 2) rfl
  have ht' : tmps[t]?.getD undef = .pointer (some ⟨b, 0, none⟩) := by rw [← ht]; simp
  have hu' : tmps[u]?.getD undef = e := by rw [← hu]; simp
  simp only [results, hf]
  go_simp
set_option maxRecDepth 100000 in
set_option maxHeartbeats 4000000 in
theorem c_Normal_no (r : Rule) (ah : Option Addr) (nh ch : Nat) (ab : Option Addr) (nb cb : Nat) (w : World) (hr : RuleV w r ah nh ch ab nb cb) (h0 : K.mayRule r ≠ 0) :
    Calls Tryz.prog 78 #[.agg #[.string r.head.pred, .slice ah nh ch, .slice ab nb cb]] w (NormPost r w) := by
  have CM : Hid (∀ W, Ext w W → Calls Tryz.prog 74 #[.agg #[.string r.head.pred, .slice ah nh ch, .slice ab nb cb]] W fun e w' => e = .returned (.int .i64 (K.mayRule r)) ∧ Ext W w') := fun W e => K.c_MayRule r ah nh ch ab nb cb W (hr.keep e)
  obtain ⟨er, her⟩ : ∃ er, K.mayRule r = er := ⟨_, rfl⟩
  have FIN : Hid (∀ w', Ext w w' → NormPost r w (.returned (.tuple #[.agg #[.string ⟨#[]⟩, .slice none 0 0, .slice none 0 0], .int .i64 er])) w') := fun w' e => by
    unfold NormPost
    rw [if_neg h0, her]
    exact ⟨rfl, e⟩
  rw [her] at CM h0
  have hne : (er != 0) = true := by simp [h0]
  clear hr her h0
  go_enter Tryz.func78, Tryz.ntmps78
  go_upto_region 1 with (fail)
  refine wp_gen (fun W hW => ?_)
  have E0 : Ext w W := by rw [hW]; exact ext_alloc (ext_alloc (Below.refl _ _) _) _
  have B0 : Blk W w.heap.size 50 [.string r.head.pred, .slice ah nh ch, .slice ab nb cb] := by
    rw [hW]
    exact (Blk.new w [.string r.head.pred, .slice ah nh ch, .slice ab nb cb] 50).ext (ext_alloc (Below.refl _ _) _)
  have B1 : Blk W (w.heap.size + 1) 50 [.string ⟨#[]⟩, .slice none 0 0, .slice none 0 0] := by
    rw [hW]
    have := Blk.new (w.alloc (.cells #[.string r.head.pred, .slice ah nh ch, .slice ab nb cb] 50)) [.string ⟨#[]⟩, .slice none 0 0, .slice none 0 0] 50
    rw [World.size_alloc] at this
    exact this
  have x0 := B0.cell (i := 0) rfl
  have x1 := B0.cell (i := 1) rfl
  have x2 := B0.cell (i := 2) rfl
  have CMW := Lib.hid (CM.out W E0)
  have HB1 := Lib.hid B1
  have HE := Lib.hid E0
  clear hW E0 B0 B1 CM
  go_wp2_with (go_at_call 74; (with_reducible refine CMW.out.mono ?_); rintro e w2 ⟨rfl, hE2⟩; have B2 := HB1.out.ext hE2; have z0 := B2.cell (i := 0) rfl; have z1 := B2.cell (i := 1) rfl; have z2 := B2.cell (i := 2) rfl; have zf := B2.free; have HB2 := Lib.hid B2; have HE2 := Lib.hid hE2; clear B2 hE2)
  refine bodyPost_ret (res_ruleN rfl rfl rfl (((HB2.out.set 0 (.string ⟨#[]⟩)).set 1 (.slice none 0 0)).set 2 (.slice none 0 0))) rfl (FIN.out _ ?_)
  exact ext_set (ext_set (ext_set (ext_trans HE.out HE2.out) (Nat.le_succ _) _) (Nat.le_succ _) _) (Nat.le_succ _) _
theorem may_few {r : Rule} (h : K.mayRule r = 0) : r.head.terms.length ≤ 64 ∧ r.body.length ≤ 64 ∧ ∀ l ∈ r.body, l.atom.terms.length ≤ 64 := by
  unfold K.mayRule at h
  split at h
  · rename_i hn; exact absurd h hn
  · rename_i h1
    split at h
    · cases h
    · rename_i h2
      refine ⟨?_, by omega, fun l hl => mayLit_few (mayLits_mem h l hl)⟩
      have h1 : K.mayAtom r.head true = 0 := by
        by_cases e : K.mayAtom r.head true = 0
        · exact e
        · exact absurd e h1
      unfold K.mayAtom at h1
      split at h1
      · rename_i hn; exact absurd h1 hn
      · split at h1
        · cases h1
        · omega
theorem lits_sum (ls : List K.Lit) (h : ∀ l ∈ ls, l.atom.terms.length ≤ 64) : (ls.map litW).sum ≤ 66 * ls.length := by
  induction ls with
  | nil => simp
  | cons l ls ih =>
    have h1 := h l (List.mem_cons_self ..)
    have h2 := ih (fun x hx => h x (List.mem_cons_of_mem _ hx))
    simp only [List.map_cons, List.sum_cons, List.length_cons]
    unfold litW at h2 ⊢
    omega
set_option linter.unusedSimpArgs false in
set_option maxRecDepth 100000 in
set_option maxHeartbeats 4000000 in
theorem c_Normal_ok (r : Rule) (ah : Option Addr) (nh ch : Nat) (ab : Option Addr) (nb cb : Nat) (w : World) (hr : RuleV w r ah nh ch ab nb cb) (hT : TabOk w) (h0 : K.mayRule r = 0) :
    Calls Tryz.prog 78 #[.agg #[.string r.head.pred, .slice ah nh ch, .slice ab nb cb]] w (NormPost r w) := by
  obtain rfl : r.head.terms.length = nh := hr.terms.2.1
  obtain rfl : r.body.length = nb := hr.body.2.1
  obtain ⟨f1, f2, f3⟩ := may_few h0
  have CM : Hid (∀ W, Ext w W → Calls Tryz.prog 74 #[.agg #[.string r.head.pred, .slice ah r.head.terms.length ch, .slice ab r.body.length cb]] W fun e w' => e = .returned (.int .i64 0) ∧ Ext W w') := fun W e => by
    have := K.c_MayRule r ah _ ch ab _ cb W (hr.keep e)
    rw [h0] at this
    exact this
  have LEN : Hid (∀ k, (renLs (renTs [] r.head.terms).1 (r.body.take k)).1.length ≤ 5000) := fun k => by
    have h1 := (renLs_len (renTs [] r.head.terms).1 (r.body.take k)).2
    have h2 := (renTs_len [] r.head.terms).2
    have h3 := lits_sum (r.body.take k) (fun l hl => f3 l (List.mem_of_mem_take hl))
    have h4 := List.length_take_le' k r.body
    simp only [List.length_nil] at h2
    omega
  have FIN : Hid (∀ w' a4 c4 a5 c5, TermsAt w' a4 r.head.terms.length (renTs [] r.head.terms).2 → LitsAt w' a5 r.body.length (renLs (renTs [] r.head.terms).1 r.body).2 → Ext w w' → NormPost r w (.returned (.tuple #[.agg #[.string r.head.pred, .slice a4 r.head.terms.length c4, .slice a5 r.body.length c5], .int .i64 0])) w') := fun w' a4 c4 a5 c5 h1 h2 e => by
    unfold NormPost
    rw [if_pos h0]
    exact ⟨a4, c4, a5, _, c5, rfl, h1, h2, e⟩
  have HR := Lib.hid hr
  have HT := Lib.hid hT
  have HF3 := Lib.hid f3
  clear hr hT h0 f3
  have hmm := @run_makeMap Tryz.prog
  go_enter Tryz.func78, Tryz.ntmps78
  go_upto_region 1 with (fail)
  refine wp_gen (fun W hW => ?_)
  have E0 : Ext w W := by rw [hW]; exact ext_alloc (ext_alloc (Below.refl _ _) _) _
  have B0 : Blk W w.heap.size 50 [.string r.head.pred, .slice ah r.head.terms.length ch, .slice ab r.body.length cb] := by
    rw [hW]
    exact (Blk.new w [.string r.head.pred, .slice ah r.head.terms.length ch, .slice ab r.body.length cb] 50).ext (ext_alloc (Below.refl _ _) _)
  have B1 : Blk W (w.heap.size + 1) 50 [.string ⟨#[]⟩, .slice none 0 0, .slice none 0 0] := by
    rw [hW]
    have := Blk.new (w.alloc (.cells #[.string r.head.pred, .slice ah r.head.terms.length ch, .slice ab r.body.length cb] 50)) [.string ⟨#[]⟩, .slice none 0 0, .slice none 0 0] 50
    rw [World.size_alloc] at this
    exact this
  have x0 := B0.cell (i := 0) rfl
  have x1 := B0.cell (i := 1) rfl
  have x2 := B0.cell (i := 2) rfl
  have CMW := Lib.hid (CM.out W E0)
  have HB1 := Lib.hid B1
  have HE := Lib.hid E0
  obtain ⟨rb, hrb⟩ : ∃ rb, w.heap.size = rb := ⟨_, rfl⟩
  have HRB := Lib.hid hrb
  have hrs : W.heap.size = rb + 2 := by rw [hW]; simp; omega
  rw [hrb] at x0 x1 x2 HB1 ⊢
  clear hW E0 B0 B1 CM
  go_upto_region 5 with (go_at_call 74; (with_reducible refine CMW.out.mono ?_); rintro e w2 ⟨rfl, hE2⟩; have x0 := keep hE2 x0; have x1 := keep hE2 x1; have x2 := keep hE2 x2; have B2 := Lib.hid (HB1.out.ext hE2); have HE2 := Lib.hid (ext_trans HE.out hE2); have hs2 := hE2.size; clear hE2)
  refine wp_gen (fun W3 hW3 => ?_)
  obtain ⟨mb, hmb⟩ : ∃ mb, w2.heap.size = mb := ⟨_, rfl⟩
  have E23 : Ext w2 W3 := by rw [hW3]; exact ext_alloc (Below.refl _ _) _
  have hs3 : W3.heap.size = mb + 1 := by rw [hW3]; simp; omega
  have E3 : Ext w W3 := ext_trans HE2.out E23
  have M3 : RMap W3 mb [] := ⟨by rw [hW3, ← hmb]; exact LMap.made w2, by simp⟩
  have x0 := keep E23 x0
  have x1 := keep E23 x1
  have x2 := keep E23 x2
  have B3 := Lib.hid (B2.out.ext E23)
  have hrm : rb ≠ mb := by omega
  have hrm2 : rb + 1 ≠ mb := by omega
  have CA := Lib.hid (c_atomR [] mb r.head.pred r.head.terms ah _ ch W3 M3 (HT.out.ext E3) (HR.out.terms.keep E3) HR.out.hcap (by simp; omega))
  have HE3 := Lib.hid E3
  rw [hmb]
  clear hW3 E3 M3 E23 B2 hmm CMW HB1 HE
  go_upto_region 6 with (go_at_call 109; (with_reducible refine CA.out.mono ?_); unfold AtomPost; rintro e w4 ⟨a4, c4, rfl, own4, rm4, b4⟩; have x2 := b4.cell hrm x2; have B4 := Lib.hid (B3.out.but b4 hrm2); have OWN4 := Lib.hid own4; have RM4 := Lib.hid rm4; have HB4 := Lib.hid b4; clear own4 rm4 b4)
  refine wp_gen (fun W5 hW5 => ?_)
  obtain ⟨ob, hob⟩ : ∃ ob, w4.heap.size = ob := ⟨_, rfl⟩
  have E5 : Ext w4 W5 := by rw [hW5]; exact ext_alloc (Below.refl _ _) _
  have hrbm : rb + 2 ≤ mb := by omega
  have hmo : mb < ob := by have := HB4.out.size; omega
  have S0 : NorSt w (ob + 1) mb ob (rb + 1) (renTs [] r.head.terms).1 r.head.pred a4 r.head.terms.length c4 (renTs [] r.head.terms).2 [] none 0 0 W5 := by
    refine ⟨RM4.out.ext E5, ?_, B4.out.ext E5, (ren_terms OWN4.out RM4.out (by omega) HR.out.terms.texts).keep E5, World.ownsRow_nil _ _ _ _, by simp, fun x off hx => ?_, by simp, by omega, by omega, by have := HRB.out; omega, ?_⟩
    · rw [hW5, ← hob]
      exact Blk.new w4 [.string r.head.pred, .slice a4 r.head.terms.length c4, .slice none 0 0] 50
    · subst hx
      have h1 := own_far OWN4.out
      have h2 : W5.heap.size = ob + 1 := by rw [hW5]; simp; omega
      exact ⟨by omega, by omega, by omega, (by intro e; cases e), by omega⟩
    · have b1 : ButS (fun x => x = mb) w W3 := ⟨HE3.out.os, HE3.out.tape, HE3.out.output, HE3.out.size, fun b hb _ => HE3.out.block b hb⟩
      have b2 := (b1.trans HB4.out).ext E5
      exact ⟨b2.os, b2.tape, b2.output, b2.size, fun b hb => b2.block b hb (by have := HRB.out; omega)⟩
  have x2 := keep E5 x2
  rw [hob]
  have HS0 := Lib.hid S0
  obtain ⟨lo, hlo⟩ : ∃ lo, ob + 1 = lo := ⟨_, rfl⟩
  have HLO := Lib.hid hlo
  rw [hlo] at HS0
  obtain ⟨rs, hrs2⟩ : ∃ rs, rb + 1 = rs := ⟨_, rfl⟩
  rw [hrs2] at HS0 ⊢
  clear hW5 E5 S0 OWN4 RM4 B4 HB4 HE3 CA B3 x0 x1 hs3 hs2 hrs hlo hrs2
  go_wp2
  go_loopw [24] (fun v wr => ∃ k : Nat, k ≤ r.body.length ∧ v = .int .i64 (k : Int) ∧ ∃ ps ba bc, ps.map (·.1) = (renLs (renTs [] r.head.terms).1 (r.body.take k)).2 ∧ NorSt w lo mb ob rs (renLs (renTs [] r.head.terms).1 (r.body.take k)).1 r.head.pred a4 r.head.terms.length c4 (renTs [] r.head.terms).2 ps ba k bc wr) (fun v _ => r.body.length - (intOf v).toNat)
  case atStart => exact ⟨0, Nat.zero_le _, rfl, [], none, 0, rfl, HS0.out⟩
  case round =>
    obtain ⟨k, hk, rfl, ps, ba, bc, hps, st⟩ := hrel
    have HPS := Lib.hid hps
    have HST := Lib.hid st
    clear hps
    by_cases hlt : ¬ k < r.body.length
    · have hki : ¬ (k : Int) < (r.body.length : Int) := by omega
      obtain ⟨nk, hnk⟩ : ∃ nk, r.body.length = nk := ⟨_, rfl⟩
      have x0 := st.box.cell (i := 0) rfl
      have x1 := st.box.cell (i := 1) rfl
      have x2 := st.box.cell (i := 2) rfl
      have z0 := st.res.cell (i := 0) rfl
      have z1 := st.res.cell (i := 1) rfl
      have z2 := st.res.cell (i := 2) rfl
      have zf := st.res.free
      have HK : Hid (k = r.body.length) := by show _ = _; omega
      clear st hnk
      go_wp2
      refine bodyPost_ret (res_ruleN rfl rfl rfl (((HST.out.res.set 0 (.string r.head.pred)).set 1 (.slice a4 r.head.terms.length c4)).set 2 (.slice ba k bc))) rfl ?_
      have b9 : ButS (fun x => x = rs) wr (((wr.setCell ⟨rs, 0, none⟩ (.string r.head.pred)).setCell ⟨rs, 1, none⟩ (.slice a4 r.head.terms.length c4)).setCell ⟨rs, 2, none⟩ (.slice ba k bc)) := (((ButS.refl (fun x => x = rs) wr).set (.inl rfl) _ _).set (.inl rfl) _ _).set (.inl rfl) _ _
      have st := HST.out
      have hp := HPS.out
      rw [HK.out] at st hp b9
      rw [List.take_length] at st hp
      rw [HK.out]
      have hpl : ps.length = r.body.length := by
        have := congrArg List.length hp
        rw [List.length_map, (renLs_len _ _).1] at this
        exact this
      refine FIN.out _ _ _ _ _ (terms_but st.head ?_ (fun x off hx => (st.farH x off hx).2.2.1)) ?_ ?_
      · exact b9
      · have own9 := b9.own st.row (fun b hb hx => st.notRow st.below.2.2 (by rw [hb, hx]))
        have := K.own_litsP (rest := []) (by rw [List.append_nil]; exact own9) hpl (by omega) (fun q hq => ⟨terms_but (st.ok q hq).1 b9 (fun x off hx => (st.farP q hq x off hx).2.2.1), (st.ok q hq).2⟩)
        rw [hp] at this
        exact this
      · have b0 : ButS (fun x => x = rs) w wr := ⟨st.ext.os, st.ext.tape, st.ext.output, st.ext.size, fun b hb _ => st.ext.block b hb⟩
        have b1 := b0.trans b9
        exact ⟨b1.os, b1.tape, b1.output, b1.size, fun b hb => b1.block b hb (by have := st.wb.2.2; omega)⟩
    · have hlt : k < r.body.length := by omega
      have hki : (k : Int) < (r.body.length : Int) := by omega
      obtain ⟨l, b, off, ta, tn, tc, hlk, rfl, z0, z1, z2, z3, z4, z5, z6, z7, ht, htc⟩ := lit_cells (HR.out.body.keep st.ext) hlt
      obtain rfl : l.atom.terms.length = tn := ht.2.1
      obtain ⟨M, hM⟩ : ∃ M, (renLs (renTs [] r.head.terms).1 (r.body.take k)).1 = M := ⟨_, rfl⟩
      have TK : Hid (renLs (renTs [] r.head.terms).1 (r.body.take (k + 1)) = ((renL M l).1, (renLs (renTs [] r.head.terms).1 (r.body.take k)).2 ++ [(renL M l).2])) := by
        show _ = _
        rw [take_at hlk, renLs_snoc, hM]
      have hml : M.length ≤ 5000 := by rw [← hM]; exact LEN.out k
      have hll : l.atom.terms.length ≤ 64 := HF3.out l (List.mem_of_getElem? hlk)
      rw [hM] at st
      rw [hM] at HST
      have hmb := st.map.1.lt
      have HOUT : Hid (∀ q : LitP, q.1 = (renL M l).2 → ∀ W9, ButS (fun x => x = mb) wr W9 → RMap W9 mb (renL M l).1 → K.okP W9 q → (∀ x off, q.2.1 = some ⟨x, off, none⟩ → wr.heap.size ≤ x ∧ x < W9.heap.size) → W9.ownsRow lo 47 8 (.slice ba k bc) k (flatP ps) ∧ Blk W9 ob 50 [.string r.head.pred, .slice a4 r.head.terms.length c4, .slice ba k bc] ∧ lo ≤ W9.heap.size ∧
          ∀ (o : Obj) (w6 : World) (g c' : Nat), w6.ownsRow lo 47 8 (.slice (some ⟨g, 0, none⟩) (k + 1) c') (k + 1) (flatP (ps ++ [q])) → (W9.alloc o).grownBy w6 (Value.slice ba k bc).ownBlock → ((Value.slice ba k bc).ownBlock = some g ∨ W9.heap.size < g) →
            Blk w6 ob 50 [.string r.head.pred, .slice a4 r.head.terms.length c4, .slice ba k bc] ∧ ∃ ps ba bc, ps.map (·.1) = (renLs (renTs [] r.head.terms).1 (r.body.take (k + 1))).2 ∧ NorSt w lo mb ob rs (renLs (renTs [] r.head.terms).1 (r.body.take (k + 1))).1 r.head.pred a4 r.head.terms.length c4 (renTs [] r.head.terms).2 ps ba (k + 1) bc (w6.setCell ⟨ob, 2, none⟩ (.slice (some ⟨g, 0, none⟩) (k + 1) c'))) := fun q hq W9 b9 rm9 ok9 far9 => by
        have st9 := HST.out.ren b9 rm9
        refine ⟨st9.row, st9.box, ?_, fun o w6 g c' own6 gr hat => ?_⟩
        · have h1 := st9.box.lt
          have := HLO.out
          omega
        · have far : ∀ x off, q.2.1 = some ⟨x, off, none⟩ → FarN mb ob rs (.slice ba k bc) W9 x := fun x off hx => by
            have := far9 x off hx
            have h1 := HST.out.below
            have h2 := HST.out.box.lt
            have h3 := HST.out.res.lt
            have h4 := HST.out.map.1.lt
            refine ⟨by omega, by omega, by omega, fun e => ?_, this.2⟩
            have := (HST.out.row.lt x e).2
            omega
          obtain ⟨h1, h2⟩ := st9.push ok9 far own6 gr hat
          exact ⟨h1, ps ++ [q], _, _, by rw [TK.out, List.map_append, HPS.out]; simp [hq], by rw [TK.out]; exact h2⟩
      have RML : Hid (∀ W', Ext wr W' → RMap W' mb M) := fun W' e => HST.out.map.ext e
      have TBW : Hid (∀ W' : World, Ext wr W' → TabOk W') := fun W' e => by
        have h1 : TabOk wr := HT.out.ext HST.out.ext
        exact h1.ext e
      have hkfew : k ≤ 2000000 := by omega
      have HLT := Lib.hid hlt
      have HT2 := Lib.hid ht
      have HTC := Lib.hid htc
      have HX := Lib.hid (HR.out.body.keep st.ext)
      have HLKK := Lib.hid hlk
      clear st hlk ht htc
      go_upto_region 9 with (fail)
      refine wp_gen (fun W8 hW8 => ?_)
      have E8 : Ext wr W8 := by rw [hW8]; exact ext_alloc (Below.refl _ _) _
      have B8 : Blk W8 wr.heap.size 47 [.int .i64 l.kind, .string l.atom.pred, .slice ta l.atom.terms.length tc, .int .i64 l.op, .int .i64 l.left.kind, .string l.left.text, .int .i64 l.right.kind, .string l.right.text] := by
        rw [hW8]
        exact Blk.new wr [.int .i64 l.kind, .string l.atom.pred, .slice ta l.atom.terms.length tc, .int .i64 l.op, .int .i64 l.left.kind, .string l.left.text, .int .i64 l.right.kind, .string l.right.text] 47
      obtain ⟨lb, hlb⟩ : ∃ lb, wr.heap.size = lb := ⟨_, rfl⟩
      have hsz8 : W8.heap.size = lb + 1 := by rw [hW8]; simp; omega
      rw [hlb] at B8 ⊢
      have u0 := B8.cell (i := 0) rfl
      have u1 := B8.cell (i := 1) rfl
      have u2 := B8.cell (i := 2) rfl
      have u3 := B8.cell (i := 3) rfl
      have u4 := B8.cell (i := 4) rfl
      have u5 := B8.cell (i := 5) rfl
      have u6 := B8.cell (i := 6) rfl
      have u7 := B8.cell (i := 7) rfl
      have HB8 := Lib.hid B8
      have HE8 := Lib.hid E8
      have hml2 : lb ≠ mb := by omega
      obtain ⟨k3, hk3⟩ : ∃ b, (l.kind == 3) = b := ⟨_, rfl⟩
      have HLTX : l.left.text.size ≤ maxLen ∧ l.right.text.size ≤ maxLen ∧ l.atom.pred.size ≤ maxLen := by
        obtain ⟨_, _, _, _, _, _, _, _, _, _, _, _, _, _, hp1, hp2, hp3⟩ := HX.out.2.2 k l HLKK.out
        exact ⟨hp3.2.1, hp3.2.2, hp3.1⟩
      have HLTX := Lib.hid HLTX
      clear hW8 E8 B8 z0 z1 z2 z3 z4 z5 z6 z7
      cases k3 with
      | false =>
        have RL : Hid (renL M l = ((renTs M l.atom.terms).1, ⟨l.kind, ⟨l.atom.pred, (renTs M l.atom.terms).2⟩, l.op, l.left, l.right⟩)) := by
          show _ = _
          unfold renL
          rw [if_neg (by simpa using hk3)]
        have CA := Lib.hid (c_atomR M mb l.atom.pred l.atom.terms ta _ tc W8 (RML.out W8 HE8.out) (TBW.out W8 HE8.out) (HT2.out.keep HE8.out) HTC.out (by omega))
        clear RML TBW HX
        go_upto_region 12 with (go_at_call 109; (with_reducible refine CA.out.mono ?_); unfold AtomPost; rintro e w9 ⟨a9, c9, rfl, own9, rm9, b9⟩; have B9 := HB8.out.but b9 hml2; have u1 := B9.cell (i := 1) rfl; have u2 := B9.cell (i := 2) rfl; have uf := B9.free; have HB9 := Lib.hid B9; have OWN9 := Lib.hid own9; have RM9 := Lib.hid rm9; have HB9b := Lib.hid b9; clear B9 own9 rm9 b9)
        refine wp_gen (fun W10 hW10 => ?_)
        have b10 : ButS (fun x => x = lb) w9 W10 := by rw [hW10]; exact ((ButS.refl (fun x => x = lb) w9).set (.inl rfl) _ _).set (.inl rfl) _ _
        have B10 : Blk W10 lb 47 [.int .i64 l.kind, .string l.atom.pred, .slice a9 l.atom.terms.length c9, .int .i64 l.op, .int .i64 l.left.kind, .string l.left.text, .int .i64 l.right.kind, .string l.right.text] := by
          rw [hW10]
          exact (HB9.out.set 1 (.string l.atom.pred)).set 2 (.slice a9 l.atom.terms.length c9)
        have bW : ButS (fun x => x = mb) wr W10 := by
          have b1 : ButS (fun x => x = mb) wr W8 := ⟨HE8.out.os, HE8.out.tape, HE8.out.output, HE8.out.size, fun b hb _ => HE8.out.block b hb⟩
          rw [hW10]
          exact ((b1.trans HB9b.out).set (.inr (by omega)) _ _).set (.inr (by omega)) _ _
        have rm10 : RMap W10 mb (renL M l).1 := by
          rw [RL.out]
          exact RM9.out.but b10 (Ne.symm hml2)
        have hown10 := b10.own OWN9.out (fun b hb hx => by have := (OWN9.out.lt b hb).1; omega)
        have ok10 : K.okP W10 (⟨l.kind, ⟨l.atom.pred, (renTs M l.atom.terms).2⟩, l.op, l.left, l.right⟩, a9, l.atom.terms.length, c9) := by
          rw [RL.out] at rm10
          exact ⟨ren_terms hown10 rm10 (by omega) HT2.out.texts, cap_of_own hown10, HLTX.out.2.2, HLTX.out.1, HLTX.out.2.1⟩
        obtain ⟨r1, r2, r3, r4⟩ := HOUT.out (⟨l.kind, ⟨l.atom.pred, (renTs M l.atom.terms).2⟩, l.op, l.left, l.right⟩, a9, l.atom.terms.length, c9) (by rw [RL.out]) W10 bW rm10 ok10 (fun x off hx => by
          have hx : a9 = some ⟨x, off, none⟩ := hx
          subst hx
          have := own_far hown10
          omega)
        have x1 := r2.cell (i := 2) rfl
        have v0 := B10.cell (i := 0) rfl
        have v1 := B10.cell (i := 1) rfl
        have v2 := B10.cell (i := 2) rfl
        have v3 := B10.cell (i := 3) rfl
        have v4 := B10.cell (i := 4) rfl
        have v5 := B10.cell (i := 5) rfl
        have v6 := B10.cell (i := 6) rfl
        have v7 := B10.cell (i := 7) rfl
        have R4 := Lib.hid r4
        have R1 := Lib.hid r1
        have R2 := Lib.hid r2
        clear hW10 b10 B10 bW rm10 hown10 ok10 r1 r2 r4 RL HOUT CA OWN9 RM9 HB9 HB9b hk3
        go_wp2_with (at_builtin; go_loud (refine wpList_push_lit W10 (⟨l.kind, ⟨l.atom.pred, (renTs M l.atom.terms).2⟩, l.op, l.left, l.right⟩, a9, l.atom.terms.length, c9) lo ba k bc ps R1.out hkfew r3 rfl _ _ rfl rfl rfl ?_); intro g6 c6 w6 p1 p2 p3; obtain ⟨B6, S6⟩ := R4.out _ w6 g6 c6 p1 p2 p3; have z2 := B6.cell (i := 2) rfl; have zf := B6.free; have P6 := Lib.hid S6; clear p1 p2 p3 B6 S6)
        go_roundw
        case rel => exact ⟨k + 1, HLT.out, by go_num, P6.out⟩
        case measure => have := HLT.out; simp [intOf]; omega
      | true =>
        have RL : Hid (renL M l = ((renT (renT M l.left).1 l.right).1, ⟨l.kind, ⟨⟨#[]⟩, []⟩, l.op, (renT M l.left).2, (renT (renT M l.left).1 l.right).2⟩)) := by
          show _ = _
          unfold renL
          rw [if_pos (by simpa using hk3)]
        have RM8 := RML.out W8 HE8.out
        have TB8 := TBW.out W8 HE8.out
        have KD : ∀ (m : AL ByteArray) (t : Term), (renT m t).2.kind = t.kind := fun m t => by
          unfold renT
          split
          · split <;> rfl
          · rfl
        obtain ⟨M1, hM1⟩ : ∃ M1, (renT M l.left).1 = M1 := ⟨_, rfl⟩
        obtain ⟨M2, hM2⟩ : ∃ M2, (renT M1 l.right).1 = M2 := ⟨_, rfl⟩
        obtain ⟨tl, htl⟩ : ∃ tl, (renT M l.left).2 = tl := ⟨_, rfl⟩
        obtain ⟨tr, htr⟩ : ∃ tr, (renT M1 l.right).2 = tr := ⟨_, rfl⟩
        have hkl : tl.kind = l.left.kind := by rw [← htl]; exact KD _ _
        have hkr : tr.kind = l.right.kind := by rw [← htr]; exact KD _ _
        have CT1 : Hid (Calls Tryz.prog 110 #[.map (some mb), .agg #[.int .i64 l.left.kind, .string l.left.text]] W8.drew fun e w' => e = .returned (.agg #[.int .i64 l.left.kind, .string tl.text]) ∧ RMap w' mb M1 ∧ ButS (fun x => x = mb) W8.drew w') := by
          have := c_term M mb l.left W8.drew (RM8.ext (ext_drew (Below.refl _ _))) (TB8.ext (ext_drew (Below.refl _ _))) HLTX.out.1 (by omega)
          unfold TermPost at this
          rw [hM1, htl] at this
          exact this
        have CT2 : Hid (∀ W', RMap W' mb M1 → ButS (fun x => x = mb) W8.drew W' → Calls Tryz.prog 110 #[.map (some mb), .agg #[.int .i64 l.right.kind, .string l.right.text]] W' fun e w' => e = .returned (.agg #[.int .i64 l.right.kind, .string tr.text]) ∧ RMap w' mb M2 ∧ ButS (fun x => x = mb) W' w') := fun W' rm b => by
          obtain ⟨es, cl, hmb2, _⟩ := RM8.1
          have tb : TabOk W' := TabOk.but (TB8.ext (ext_drew (Below.refl _ _))) b (es := es) (c := cl) hmb2
          have := c_term M1 mb l.right W' rm tb HLTX.out.2.1 (by have := renT_len M l.left; rw [hM1] at this; omega)
          unfold TermPost at this
          rw [hM2, htr] at this
          exact this
        have u3d : W8.drew.cell? ⟨lb, 4, none⟩ = some (.int .i64 l.left.kind) := u4
        have u4d : W8.drew.cell? ⟨lb, 5, none⟩ = some (.string l.left.text) := u5
        have u5d : W8.drew.cell? ⟨lb, 6, none⟩ = some (.int .i64 l.right.kind) := u6
        have u6d : W8.drew.cell? ⟨lb, 7, none⟩ = some (.string l.right.text) := u7
        have mixed : Tryz.prog.follows .mixedOrders = true := by kernel_rfl
        have HRM8 := Lib.hid RM8
        have TLX : Hid (∀ W', RMap W' mb M1 → tl.text.size ≤ maxLen) := fun W' rm => by
          rw [← hM1] at rm
          rw [← htl]
          exact renT_text rm HLTX.out.1
        have TRX : Hid (∀ W', RMap W' mb M2 → tr.text.size ≤ maxLen) := fun W' rm => by
          rw [← hM2] at rm
          rw [← htr]
          exact renT_text rm HLTX.out.2.1
        have HB8D := Lib.hid (HB8.out.ext (ext_drew (Below.refl _ W8)))
        have HKL := Lib.hid hkl
        have HKR := Lib.hid hkr
        have RL2 : Hid (renL M l = (M2, ⟨l.kind, ⟨⟨#[]⟩, []⟩, l.op, tl, tr⟩)) := by
          show _ = _
          rw [RL.out, hM1, hM2, htl, htr]
        clear RM8 TB8 RML TBW HX RL hM1 hM2 htl htr hkl hkr KD
        go_upto_region 10 with (fail)
        clear hk3
        go_region_with (first | (go_at_call 110; (with_reducible refine CT1.out.mono ?_); rintro e w5 ⟨rfl, rm5, b5⟩; have u5e := b5.cell hml2 u5d; have u6e := b5.cell hml2 u6d) | (go_at_call 110; (with_reducible refine (CT2.out _ rm5 b5).mono ?_); rintro e w6 ⟨rfl, rm6, b6⟩; have B6 := (HB8D.out.but b5 hml2).but b6 hml2; have z1 := B6.cell (i := 1) rfl; have z2 := B6.cell (i := 2) rfl; have z4 := B6.cell (i := 4) rfl; have z5 := B6.cell (i := 5) rfl; have z6 := B6.cell (i := 6) rfl; have z7 := B6.cell (i := 7) rfl; have zf := B6.free; have HB6 := Lib.hid B6; clear B6) | fail)
        all_goals
          obtain ⟨W10, hW10⟩ : ∃ W10, ((((((w6.setCell ⟨lb, 4, none⟩ (.int .i64 l.left.kind)).setCell ⟨lb, 5, none⟩ (.string tl.text)).setCell ⟨lb, 6, none⟩ (.int .i64 l.right.kind)).setCell ⟨lb, 7, none⟩ (.string tr.text)).setCell ⟨lb, 1, none⟩ (.string ⟨#[]⟩)).setCell ⟨lb, 2, none⟩ (.slice none 0 0)) = W10 := ⟨_, rfl⟩
          have b10 : ButS (fun x => x = lb) w6 W10 := by rw [← hW10]; exact ((((((ButS.refl (fun x => x = lb) w6).set (.inl rfl) _ _).set (.inl rfl) _ _).set (.inl rfl) _ _).set (.inl rfl) _ _).set (.inl rfl) _ _).set (.inl rfl) _ _
          have B10 : Blk W10 lb 47 [.int .i64 l.kind, .string ⟨#[]⟩, .slice none 0 0, .int .i64 l.op, .int .i64 l.left.kind, .string tl.text, .int .i64 l.right.kind, .string tr.text] := by
            rw [← hW10]
            exact (((((HB6.out.set 4 (.int .i64 l.left.kind)).set 5 (.string tl.text)).set 6 (.int .i64 l.right.kind)).set 7 (.string tr.text)).set 1 (.string ⟨#[]⟩)).set 2 (.slice none 0 0)
          have bW : ButS (fun x => x = mb) wr W10 := by
            have b1 : ButS (fun x => x = mb) wr W8 := ⟨HE8.out.os, HE8.out.tape, HE8.out.output, HE8.out.size, fun b hb _ => HE8.out.block b hb⟩
            have b2 := ((b1.ext (ext_drew (Below.refl _ _))).trans b5).trans b6
            rw [← hW10]
            exact (((((b2.set (.inr (by omega)) _ _).set (.inr (by omega)) _ _).set (.inr (by omega)) _ _).set (.inr (by omega)) _ _).set (.inr (by omega)) _ _).set (.inr (by omega)) _ _
          have rm10 : RMap W10 mb (renL M l).1 := by
            rw [RL2.out]
            exact rm6.but b10 (Ne.symm hml2)
          have ok10 : K.okP W10 (⟨l.kind, ⟨⟨#[]⟩, []⟩, l.op, ⟨l.left.kind, tl.text⟩, ⟨l.right.kind, tr.text⟩⟩, none, 0, 0) := ⟨⟨by show 0 ≤ _; omega, rfl, fun i t h => by simp at h⟩, ⟨Nat.le_refl _, fun _ => ⟨rfl, rfl⟩⟩, Nat.zero_le _, TLX.out _ rm5, TRX.out _ rm6⟩
          obtain ⟨r1, r2, r3, r4⟩ := HOUT.out (⟨l.kind, ⟨⟨#[]⟩, []⟩, l.op, ⟨l.left.kind, tl.text⟩, ⟨l.right.kind, tr.text⟩⟩, none, 0, 0) (by
            rw [RL2.out]
            show (⟨l.kind, ⟨⟨#[]⟩, []⟩, l.op, ⟨l.left.kind, tl.text⟩, ⟨l.right.kind, tr.text⟩⟩ : K.Lit) = ⟨l.kind, ⟨⟨#[]⟩, []⟩, l.op, tl, tr⟩
            rw [← HKL.out, ← HKR.out]) W10 bW rm10 ok10 (fun x off hx => by cases hx)
          have x1 := r2.cell (i := 2) rfl
          have v0 := B10.cell (i := 0) rfl
          have v1 := B10.cell (i := 1) rfl
          have v2 := B10.cell (i := 2) rfl
          have v3 := B10.cell (i := 3) rfl
          have v4 := B10.cell (i := 4) rfl
          have v5 := B10.cell (i := 5) rfl
          have v6 := B10.cell (i := 6) rfl
          have v7 := B10.cell (i := 7) rfl
          have R4 := Lib.hid r4
          have R1 := Lib.hid r1
          rw [hW10]
          clear hW10 b10 B10 bW rm10 ok10 r1 r2 r4 RL2 HOUT CT1 CT2 HB6 HB8 HB8D rm5 rm6 b5 b6 z1 z2 z4 z5 z6 z7 zf u5e u6e TLX TRX HKL HKR
          go_wp2_with (at_builtin; go_loud (refine wpList_push_lit W10 (⟨l.kind, ⟨⟨#[]⟩, []⟩, l.op, ⟨l.left.kind, tl.text⟩, ⟨l.right.kind, tr.text⟩⟩, none, 0, 0) lo ba k bc ps R1.out hkfew r3 rfl _ _ rfl rfl rfl ?_); intro g6 c6 w7 p1 p2 p3; obtain ⟨B6, S6⟩ := R4.out _ w7 g6 c6 p1 p2 p3; have z2 := B6.cell (i := 2) rfl; have zf := B6.free; have P6 := Lib.hid S6; clear p1 p2 p3 B6 S6)
          go_roundw
          case rel => exact ⟨k + 1, HLT.out, by go_num, P6.out⟩
          case measure => have := HLT.out; simp [intOf]; omega
theorem c_Normal (r : Rule) (ah : Option Addr) (nh ch : Nat) (ab : Option Addr) (nb cb : Nat) (w : World) (hr : RuleV w r ah nh ch ab nb cb) (hT : TabOk w) :
    Calls Tryz.prog 78 #[.agg #[.string r.head.pred, .slice ah nh ch, .slice ab nb cb]] w (NormPost r w) := by
  by_cases h0 : K.mayRule r = 0
  · exact c_Normal_ok r ah nh ch ab nb cb w hr hT h0
  · exact c_Normal_no r ah nh ch ab nb cb w hr h0
end Go.Proofs.YtlalgaioiapjmaaGreatDoor
