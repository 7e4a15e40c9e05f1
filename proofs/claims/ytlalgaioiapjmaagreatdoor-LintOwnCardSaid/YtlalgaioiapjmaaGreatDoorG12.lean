/- Rules in memory; the walk of schema.Check. The walk of strata.aggregate: has a rule's head an aggregate? What strata.weave's two maps come to, literal by literal and rule by rule. The walk of strata.weave (begun). The state of strata.weave's first loops: two maps, the web, all new. What strata.weave's maps come to: names, places, edges. Plain lemmas. -/
import Derived.Test.YtlalgaioiapjmaaGreatDoorG6
import Derived.Test.YtlalgaioiapjmaaGreatDoorG11
import Derived.Deep.CutBlock
import Derived.Sort.LotA
namespace Go.Proofs.YtlalgaioiapjmaaGreatDoor
open Go.ChangeShapes Go.WideShapes Go.ChangeAt Go.RowKit
open K (AL fitA fitU usesR usesB Term Rule RuleV TermsAt LitsAt StrsAt boundR safeR mayRule checkGo checkP)
/-- A rule in a row of rules. -/
def ruleIn (w : World) (b o : Nat) (r : Rule) : Prop := ∃ (ah : Option Addr) (nh ch : Nat) (ab : Option Addr) (nb cb : Nat), w.cell? ⟨b, o, none⟩ = some (.string r.head.pred) ∧ w.cell? ⟨b, o + 1, none⟩ = some (.slice ah nh ch) ∧ w.cell? ⟨b, o + 2, none⟩ = some (.slice ab nb cb) ∧ RuleV w r ah nh ch ab nb cb
theorem ruleIn.keep {W w : World} (hb : Ext W w) {b o : Nat} {r : Rule} (h : ruleIn W b o r) : ruleIn w b o r := by
  obtain ⟨ah, nh, ch, ab, nb, cb, h0, h1, h2, h3⟩ := h
  exact ⟨ah, nh, ch, ab, nb, cb, YtlalgaioiapjmaaGreatDoor.keep hb h0, YtlalgaioiapjmaaGreatDoor.keep hb h1, YtlalgaioiapjmaaGreatDoor.keep hb h2, h3.keep hb⟩
def RulesAt (w : World) (a : Option Addr) (n : Nat) (rs : List Rule) : Prop := n ≤ 2199023255552 ∧ SliceAt ruleIn 3 w a n rs
theorem RulesAt.keep {W w : World} (hb : Ext W w) {a : Option Addr} {n : Nat} {rs : List Rule} (h : RulesAt W a n rs) : RulesAt w a n rs := ⟨h.1, h.2.keep fun _ _ _ => ruleIn.keep hb⟩
theorem mayLits_mem {ls : List K.Lit} (h : K.mayLits ls = 0) : ∀ l ∈ ls, K.mayLit l = 0 := by
  induction ls with
  | nil => intro l hl; simp at hl
  | cons x ls ih =>
    unfold K.mayLits at h
    intro l hl
    split at h
    · rename_i hm
      exact absurd h hm
    · rename_i hm
      rcases List.mem_cons.1 hl with rfl | hl
      · simpa using hm
      · exact ih h l hl
theorem mayLit_few {l : K.Lit} (h : K.mayLit l = 0) : l.atom.terms.length ≤ 64 := by
  unfold K.mayLit at h
  split at h
  · unfold K.mayAtom at h
    split at h
    · rename_i hm
      exact absurd h hm
    · split at h
      · simp at h
      · omega
  · split at h
    · simp at h
    · rename_i h2
      have : l.atom.terms = [] := by
        false_or_by_contra
        rename_i q
        exact h2 (.inr (.inl fun e => q e.2))
      rw [this]
      simp
theorem bodyVars_len (ls : List K.Lit) (h : ∀ l ∈ ls, l.atom.terms.length ≤ 64) : (K.bodyVars ls).length ≤ 64 * ls.length := by
  induction ls with
  | nil => simp [K.bodyVars]
  | cons l ls ih =>
    have h1 := h l (by simp)
    have h2 := ih fun x hx => h x (by simp [hx])
    have h3 : (K.termVars l.atom.terms).length ≤ l.atom.terms.length := List.length_filterMap_le _ _
    have e : K.bodyVars (l :: ls) = K.termVars l.atom.terms ++ K.bodyVars ls := rfl
    rw [e, List.length_append, List.length_cons]
    omega
theorem bound_few {r : Rule} (h : mayRule r = 0) : (boundR r).length ≤ 1000000 := by
  unfold K.mayRule at h
  split at h
  · rename_i hm
    exact absurd h hm
  · split at h
    · simp at h
    · have h1 := mayLits_mem h
      have h2 := bodyVars_len (r.body.filter fun l => decide (l.kind = 1)) fun l hl => mayLit_few (h1 l (List.mem_filter.1 hl).1)
      have h3 := List.length_filter_le (fun l : K.Lit => decide (l.kind = 1)) r.body
      unfold K.boundR
      omega
def CheckPost (rs : List Rule) (w : World) (e : Ending) (w' : World) : Prop := ∃ i : Int, e = .returned (.tuple #[.int .i64 i, .int .i64 (checkP rs)]) ∧ Ext w w'
set_option maxRecDepth 100000 in
set_option maxHeartbeats 4000000 in
theorem c_check (rs : List Rule) (a : Option Addr) (n cap : Nat) (w : World) (h : RulesAt w a n rs) :
    Calls Tryz.prog 58 #[.agg #[.slice a n cap]] w (CheckPost rs w) := by
  obtain rfl : rs.length = n := h.2.1
  have hn := h.1
  have HR := Lib.hid h
  have hmm := @run_makeMap Tryz.prog
  clear h
  by_cases hbig : 1024 < rs.length
  · have q1 : (1024 : Int) < (rs.length : Int) := by omega
    have HC : Hid (checkP rs = 81) := by
      show _ = _
      unfold K.checkP
      rw [if_pos hbig]
    clear hbig
    go_enter Tryz.func58, Tryz.ntmps58
    go_wp2
    go_returns
    exact ⟨0, by rw [HC.out]; rfl, ext_alloc (Below.refl _ _) _⟩
  · have q1 : ¬ (1024 : Int) < (rs.length : Int) := by omega
    have HC : Hid (checkP rs = checkGo rs []) := by
      show _ = _
      unfold K.checkP
      rw [if_neg hbig]
    clear hbig
    go_enter Tryz.func58, Tryz.ntmps58
    go_wp2
    refine wp_gen (fun W hW => ?_)
    have hE0 : Ext w W := by rw [hW]; exact ext_alloc (ext_alloc (Below.refl _ _) _) _
    have hM0 : AMap W (w.heap.size + 1) [] := by
      rw [hW]
      have := LMap.made (kenc := Value.string) (ok := okS) (w.alloc (.cells #[.slice a rs.length cap] 24))
      rw [World.size_alloc] at this
      exact this
    obtain ⟨mb, hmb⟩ : ∃ mb, w.heap.size + 1 = mb := ⟨_, rfl⟩
    rw [hmb] at hM0 ⊢
    have HMB : Hid (w.heap.size ≤ mb) := by show _ ≤ _; omega
    clear hW hmb hmm
    go_loopw [18] (fun v wr => ∃ (k : Nat) (m : AL Nat), k ≤ rs.length ∧ v = .int .i64 (k : Int) ∧ Ext w wr ∧ AMap wr mb m ∧ checkP rs = checkGo (rs.drop k) m) (fun v _ => rs.length - (intOf v).toNat)
    case atStart => exact ⟨0, [], Nat.zero_le _, rfl, hE0, hM0, by rw [HC.out, List.drop_zero]⟩
    case round =>
      obtain ⟨k, m, hk, rfl, E, M, hq⟩ := hrel
      have HE := Lib.hid E
      have HM := Lib.hid M
      have HQ := Lib.hid hq
      by_cases hlt : k < rs.length
      · have hki : (k : Int) < (rs.length : Int) := by omega
        obtain ⟨r, eb, eo, hx, rfl, ah, nh, ch, ab, nb, cb, c0, c1, c2, hr⟩ := HR.out.2.at hlt
        have c0 := keep E c0
        have c1 := keep E c1
        have c2 := keep E c2
        have HRV := Lib.hid hr
        have HX := Lib.hid (drop_at hx)
        have E1 : Hid (Ext wr (wr.alloc (.cells #[.string r.head.pred, .slice ah nh ch, .slice ab nb cb] 50))) := ext_alloc (Below.refl _ _) _
        have MY := Lib.hid (K.c_MayRule r ah nh ch ab nb cb _ (hr.keep (ext_trans E E1.out)))
        have EW : Hid (∀ W, Ext wr W → Ext w W) := fun W h => ext_trans HE.out h
        have STEP : Hid (checkP rs = if mayRule r ≠ 0 then mayRule r else if (fitU m (usesR r)).2 = false then 110 else if 512 < (fitU m (usesR r)).1.length then 112 else if safeR r = false then 111 else checkGo (rs.drop (k + 1)) (fitU m (usesR r)).1) := by
          show _ = _
          rw [HQ.out, HX.out, K.checkGo]
        clear E M hq hx hr
        obtain ⟨er, her⟩ : ∃ er, mayRule r = er := ⟨_, rfl⟩
        rw [her] at MY STEP
        have HER := Lib.hid her
        clear her
        by_cases h0 : er = 0
        · subst h0
          have STEP2 : Hid (checkP rs = if (fitU m (usesR r)).2 = false then 110 else if 512 < (fitU m (usesR r)).1.length then 112 else if safeR r = false then 111 else checkGo (rs.drop (k + 1)) (fitU m (usesR r)).1) := by
            have := STEP.out
            rwa [if_neg (by simp)] at this
          clear STEP
          obtain ⟨q, hq⟩ : ∃ q, fitU m (usesR r) = q := ⟨_, rfl⟩
          obtain ⟨m7, ok⟩ := q
          rw [hq] at STEP2
          have RU : Hid (∀ W, Ext wr W → Calls Tryz.prog 92 #[.map (some mb), .agg #[.string r.head.pred, .slice ah nh ch, .slice ab nb cb]] W fun e w' => e = .returned (.bool ok) ∧ AMap w' mb m7 ∧ ButS (fun x => x = mb) W w') := fun W hW => by
            have := c_rule r ah nh ch ab nb cb m mb w W HRV.out (EW.out W hW) HMB.out (HM.out.ext hW)
            rw [hq] at this
            exact this
          have SF : Hid (∀ W, Ext w W → Calls Tryz.prog 93 #[.agg #[.string r.head.pred, .slice ah nh ch, .slice ab nb cb]] W (SafePost (safeR r) W)) := fun W hW => c_safe r ah nh ch ab nb cb W (HRV.out.keep hW) (bound_few HER.out)
          have R0 : Hid (Blk (wr.alloc (.cells #[.string r.head.pred, .slice ah nh ch, .slice ab nb cb] 50)) wr.heap.size 50 [.string r.head.pred, .slice ah nh ch, .slice ab nb cb]) := Blk.new wr _ _
          have MLT : Hid (mb < wr.heap.size) := HM.out.lt
          have EX : Hid (∀ w2 w3, Ext (wr.alloc (.cells #[.string r.head.pred, .slice ah nh ch, .slice ab nb cb] 50)) w2 → ButS (fun x => x = mb) w2 w3 → Ext w w3) := fun w2 w3 h1 h2 => ext_of_but (EW.out _ (ext_trans E1.out h1)) h2 (fun b hb q => by have := HMB.out; omega)
          have LEN : Hid (∀ w3, AMap w3 mb m7 → ∀ ty, (Builtin.len_ #[142] ty #[.map (some mb)]).run Tryz.prog w3 = .ok (.int .i64 (m7.length : Nat)) w3) := fun w3 h ty => by
            have := LMap.len (P := Tryz.prog) h Tryz.underlying142 ty
            rwa [List.length_map] at this
          obtain ⟨sr, hsr⟩ : ∃ q, safeR r = q := ⟨_, rfl⟩
          rw [hsr] at SF STEP2
          clear hq hsr
          cases ok with
          | false =>
            have HF : Hid (checkP rs = 110) := STEP2.out
            go_wp2_with (first
              | (go_at_call 74; (with_reducible refine MY.out.mono ?_); rintro e w2 ⟨rfl, E2⟩; have d0 := (R0.out.ext E2).cell (i := 0) rfl; have d1 := (R0.out.ext E2).cell (i := 1) rfl; have d2 := (R0.out.ext E2).cell (i := 2) rfl)
              | (go_at_call 92; (with_reducible refine (RU.out _ (ext_trans E1.out E2)).mono ?_); rintro e w3 ⟨rfl, M3, B3⟩))
            go_returns
            exact ⟨(k : Nat), by rw [HF.out]; rfl, EX.out _ _ E2 B3⟩
          | true =>
            have STEP3 : Hid (checkP rs = if 512 < m7.length then 112 else if sr = false then 111 else checkGo (rs.drop (k + 1)) m7) := STEP2.out
            clear STEP2
            by_cases h5 : 512 < m7.length
            · have l5 : (512 : Int) < (m7.length : Int) := by omega
              have HF : Hid (checkP rs = 112) := by
                have := STEP3.out
                rwa [if_pos h5] at this
              clear h5 STEP3
              go_wp2_with (first
                | (go_at_call 74; (with_reducible refine MY.out.mono ?_); rintro e w2 ⟨rfl, E2⟩; have d0 := (R0.out.ext E2).cell (i := 0) rfl; have d1 := (R0.out.ext E2).cell (i := 1) rfl; have d2 := (R0.out.ext E2).cell (i := 2) rfl)
                | (go_at_call 92; (with_reducible refine (RU.out _ (ext_trans E1.out E2)).mono ?_); rintro e w3 ⟨rfl, M3, B3⟩; have hl := LEN.out w3 M3))
              go_returns
              exact ⟨(k : Nat), by rw [HF.out]; rfl, EX.out _ _ E2 B3⟩
            · have l5 : ¬ (512 : Int) < (m7.length : Int) := by omega
              have STEP4 : Hid (checkP rs = if sr = false then 111 else checkGo (rs.drop (k + 1)) m7) := by
                have := STEP3.out
                rwa [if_neg h5] at this
              clear h5 STEP3
              have NE : ¬ wr.heap.size = mb := by have := MLT.out; omega
              cases sr with
              | false =>
                have HF : Hid (checkP rs = 111) := STEP4.out
                go_wp2_with (first
                  | (go_at_call 74; (with_reducible refine MY.out.mono ?_); rintro e w2 ⟨rfl, E2⟩; have d0 := (R0.out.ext E2).cell (i := 0) rfl; have d1 := (R0.out.ext E2).cell (i := 1) rfl; have d2 := (R0.out.ext E2).cell (i := 2) rfl)
                  | (go_at_call 92; (with_reducible refine (RU.out _ (ext_trans E1.out E2)).mono ?_); rintro e w3 ⟨rfl, M3, B3⟩; have hl := LEN.out w3 M3; have d0 := B3.cell NE d0; have d1 := B3.cell NE d1; have d2 := B3.cell NE d2)
                  | (go_at_call 93; (with_reducible refine (SF.out _ (EX.out _ _ E2 B3)).mono ?_); rintro e w4 ⟨k4, i4, j4, s4, rfl, E4⟩))
                go_returns
                exact ⟨(k : Nat), by rw [HF.out]; rfl, ext_alloc (ext_trans (EX.out _ _ E2 B3) E4) _⟩
              | true =>
                have HF : Hid (checkP rs = checkGo (rs.drop (k + 1)) m7) := STEP4.out
                go_wp2_with (first
                  | (go_at_call 74; (with_reducible refine MY.out.mono ?_); rintro e w2 ⟨rfl, E2⟩; have d0 := (R0.out.ext E2).cell (i := 0) rfl; have d1 := (R0.out.ext E2).cell (i := 1) rfl; have d2 := (R0.out.ext E2).cell (i := 2) rfl)
                  | (go_at_call 92; (with_reducible refine (RU.out _ (ext_trans E1.out E2)).mono ?_); rintro e w3 ⟨rfl, M3, B3⟩; have hl := LEN.out w3 M3; have d0 := B3.cell NE d0; have d1 := B3.cell NE d1; have d2 := B3.cell NE d2)
                  | (go_at_call 93; (with_reducible refine (SF.out _ (EX.out _ _ E2 B3)).mono ?_); rintro e w4 ⟨k4, i4, j4, s4, rfl, E4⟩))
                go_roundw
                case rel => exact ⟨k + 1, m7, by omega, by go_num, ext_alloc (ext_trans (EX.out _ _ E2 B3) E4) _, M3.ext (ext_alloc E4 _), HF.out⟩
                case measure => simp [intOf]; omega
        · have e0 : (er != 0) = true := by simpa using h0
          have HF : Hid (checkP rs = er) := by
            have := STEP.out
            rwa [if_pos h0] at this
          clear h0 STEP
          go_wp2_with (go_at_call 74; (with_reducible refine MY.out.mono ?_); rintro e w2 ⟨rfl, E2⟩)
          go_returns
          exact ⟨(k : Nat), by rw [HF.out]; rfl, ext_trans (EW.out _ E1.out) E2⟩
      · have hge : ¬ (k : Int) < (rs.length : Int) := by omega
        have HZ : Hid (checkP rs = 0) := by
          show _ = _
          rw [HQ.out, List.drop_of_length_le (Nat.le_of_not_lt hlt)]
          rfl
        clear E M hq
        go_wp2
        go_returns
        exact ⟨0, by rw [HZ.out]; rfl, HE.out⟩
end Go.Proofs.YtlalgaioiapjmaaGreatDoor
namespace Go.Proofs.YtlalgaioiapjmaaGreatDoor
open Go.ChangeShapes Go.WideShapes Go.ChangeAt Go.RowKit
open K (Term TermsAt)
def aggT (t : Term) : Bool := decide (4 ≤ t.kind)
theorem c_agg1 (t : Term) (w : World) :
    Calls Tryz.prog 94 #[.agg #[.int .i64 t.kind, .string t.text]] w fun e w' => e = .returned (.bool (aggT t)) ∧ Ext w w' := by
  go_enter Tryz.func94, Tryz.ntmps94
  go_wp2
  go_returns
  exact ⟨rfl, ext_alloc (Below.refl _ _) _⟩
theorem c_IndexAgg (ts : List Term) (a : Option Addr) (n cap : Nat) (w : World) (ht : TermsAt w a n ts) :
    Calls Tryz.prog 102 #[.slice a n cap, .func (.func 94) #[] #[]] w (K.IdxPost (ts.any aggT) w) := by
  have hn := ht.1
  have HL := Lib.hid ht.2.1
  have HT := Lib.hid ht
  clear ht
  go_enter Tryz.func102, Tryz.ntmps102
  go_wp2
  go_loopw [8] (fun i wr => ∃ k : Nat, k ≤ n ∧ i = .int .i64 k ∧ Ext w wr ∧ ts.any aggT = (ts.drop k).any aggT) (fun i _ => n - (intOf i).toNat)
  case atStart => exact ⟨0, by omega, rfl, Below.refl _ _, by simp⟩
  case round =>
    obtain ⟨k, hk, rfl, hb, hq⟩ := hrel
    have HQ := Lib.hid hq
    clear hq
    by_cases hlt : k < n
    · obtain ⟨t, bt, off, hx, rfl, hc1, hc2, hc3⟩ := (HT.out.keep hb).2.at hlt
      have HX := Lib.hid (drop_at hx)
      clear hx
      go_wp2_with (go_at_call 94; (with_reducible refine (c_agg1 t _).mono ?_); rintro e w2 ⟨rfl, hb2⟩)
      · go_ret
        refine ⟨_, rfl, ?_, ext_trans hb hb2⟩
        rw [HQ.out, HX.out]
        simp_all
      · go_roundw
        case rel => exact ⟨k + 1, by omega, by go_num, ext_trans hb hb2, by rw [HQ.out, HX.out]; simp_all⟩
        case measure => simp [intOf]; omega
    · go_wp2
      go_ret
      refine ⟨_, rfl, ?_, hb⟩
      rw [HQ.out, List.drop_of_length_le (by have := HL.out; omega)]
      rfl
theorem c_ContainsAgg (ts : List Term) (a : Option Addr) (n cap : Nat) (w : World) (ht : TermsAt w a n ts) :
    Calls Tryz.prog 67 #[.slice a n cap, .func (.func 94) #[] #[]] w fun e w' => e = .returned (.bool (ts.any aggT)) ∧ Ext w w' := by
  go_enter Tryz.func67, Tryz.ntmps67
  go_wp2_with (go_at_call 102; (with_reducible refine (c_IndexAgg ts _ _ _ _ ht).mono ?_); rintro e w2 ⟨i, rfl, hi, hb2⟩)
  go_ret
  exact ⟨rfl, hb2⟩
theorem c_aggregate (p : ByteArray) (ts : List Term) (a : Option Addr) (n cap : Nat) (w : World) (ht : TermsAt w a n ts) :
    Calls Tryz.prog 59 #[.agg #[.string p, .slice a n cap]] w fun e w' => e = .returned (.bool (ts.any aggT)) ∧ Ext w w' := by
  have CF : Hid (∀ o, Calls Tryz.prog 67 #[.slice a n cap, .func (.func 94) #[] #[]] (w.alloc o) fun e w' => e = .returned (.bool (ts.any aggT)) ∧ Ext (w.alloc o) w') := fun o => c_ContainsAgg ts a n cap _ (ht.keep (ext_alloc (Below.refl _ _) o))
  clear ht
  go_enter Tryz.func59, Tryz.ntmps59
  go_wp2_with (go_at_call 67; (with_reducible refine (CF.out _).mono ?_); rintro e w2 ⟨rfl, hb2⟩)
  go_returns
  exact ⟨rfl, ext_after hb2 (ext_alloc (Below.refl _ _) _)⟩
end Go.Proofs.YtlalgaioiapjmaaGreatDoor
namespace Go.Proofs.YtlalgaioiapjmaaGreatDoor
open K (AL Rule)
def wt1 (ag : Bool) (l : K.Lit) : Nat := if l.kind = 2 then 1 else if ag then 1 else 0
def nmL (N : AL Nat) (l : K.Lit) : AL Nat := if l.kind = 3 then N else putL N l.atom.pred 0
def pqL (h : ByteArray) (ag : Bool) (Q : PL) (l : K.Lit) : PL := if l.kind = 3 then Q else putL Q (h, l.atom.pred) (max ((getL Q (h, l.atom.pred)).getD 0) (wt1 ag l))
def nmR (N : AL Nat) (r : Rule) : AL Nat := r.body.foldl nmL (putL N r.head.pred 0)
def pqR (Q : PL) (r : Rule) : PL := r.body.foldl (pqL r.head.pred (r.head.terms.any aggT)) Q
def nmP (rs : List Rule) : AL Nat := rs.foldl nmR []
def pqP (rs : List Rule) : PL := rs.foldl pqR []
end Go.Proofs.YtlalgaioiapjmaaGreatDoor
namespace Go.Proofs.YtlalgaioiapjmaaGreatDoor
open Go.ChangeShapes Go.WideShapes Go.ChangeAt Go.RowKit
open K (AL Rule checkP)
set_option maxRecDepth 100000 in
set_option maxHeartbeats 4000000 in
theorem c_weave_no (rs : List Rule) (a : Option Addr) (n cap : Nat) (w : World) (h : RulesAt w a n rs) (h0 : checkP rs ≠ 0) :
    Calls Tryz.prog 26 #[.agg #[.slice a n cap]] w fun e w' => e = .returned (.tuple #[.pointer none, .int .i64 (checkP rs)]) ∧ Ext w w' := by
  have CK : Hid (∀ o, Calls Tryz.prog 58 #[.agg #[.slice a n cap]] (w.alloc o) (CheckPost rs (w.alloc o))) := fun o => c_check rs a n cap _ (h.keep (ext_alloc (Below.refl _ _) o))
  obtain ⟨er, her⟩ : ∃ er, checkP rs = er := ⟨_, rfl⟩
  unfold CheckPost at CK
  rw [her] at CK h0 ⊢
  have e0 : (er != 0) = true := by simpa using h0
  clear h her h0
  go_enter Tryz.func26, Tryz.ntmps26
  go_wp2
  go_step3
  go_wp2_with (go_at_call 58; (with_reducible refine (CK.out _).mono ?_); rintro e w2 ⟨i2, rfl, E2⟩)
  rw [Exit.noGoto_ret]
  go_returns
  exact ⟨rfl, ext_after E2 (ext_alloc (Below.refl _ _) _)⟩
end Go.Proofs.YtlalgaioiapjmaaGreatDoor
namespace Go.Proofs.YtlalgaioiapjmaaGreatDoor
open Go.ChangeShapes Go.WideShapes Go.ChangeAt Go.RowKit
open K (AL Rule)
structure WvSt (w : World) (wb mi mq : Nat) (ns es : Value) (N : AL Nat) (Q : PL) (W : World) : Prop where
  ext : Ext w W
  nm : AMap W mi N
  pq : PMap W mq Q
  web : Blk W wb 82 [ns, .map (some mi), es]
  sep : w.heap.size ≤ wb ∧ w.heap.size ≤ mi ∧ w.heap.size ≤ mq ∧ mi ≠ mq ∧ wb ≠ mi ∧ wb ≠ mq
section
variable {w W W' : World} {wb mi mq : Nat} {ns es : Value} {N : AL Nat} {Q : PL}
theorem WvSt.up (h : WvSt w wb mi mq ns es N Q W) (e : Ext W W') : WvSt w wb mi mq ns es N Q W' :=
  ⟨ext_trans h.ext e, h.nm.ext e, h.pq.ext e, h.web.ext e, h.sep⟩
theorem setMap_but (W : World) (b : Nat) (o : Obj) : ButS (fun x => x = b) W (K.setMap W b o) :=
  (ButS.refl _ W).grown (K.setMap_grown W b o) (fun x e => .inl (by cases e; rfl))
theorem WvSt.name (h : WvSt w wb mi mq ns es N Q W) {o : Obj} {N' : AL Nat} (hm : AMap (K.setMap W mi o) mi N') : WvSt w wb mi mq ns es N' Q (K.setMap W mi o) := by
  have hs := h.sep
  have b := setMap_but W mi o
  exact ⟨ext_of_but h.ext b (fun x hx q => by omega), hm, h.pq.but b (by omega), h.web.but b (by omega), hs⟩
theorem WvSt.pair (h : WvSt w wb mi mq ns es N Q W) {o : Obj} {Q' : PL} (hm : PMap (K.setMap W mq o) mq Q') : WvSt w wb mi mq ns es N Q' (K.setMap W mq o) := by
  have hs := h.sep
  have b := setMap_but W mq o
  exact ⟨ext_of_but h.ext b (fun x hx q => by omega), h.nm.but b (by omega), hm, h.web.but b (by omega), hs⟩
theorem WvSt.drew (h : WvSt w wb mi mq ns es N Q W) : WvSt w wb mi mq ns es N Q W.drew := h.up (ext_drew (Below.refl _ _))
end
end Go.Proofs.YtlalgaioiapjmaaGreatDoor
namespace Go.Proofs.YtlalgaioiapjmaaGreatDoor
open K (AL Rule checkP checkGo mayRule usesR usesB fitU fitA)
open Go.Sort
theorem putL_mem {α β : Type} [DecidableEq α] (l : List (α × β)) (k x : α) (v : β) : x ∈ (putL l k v).map (·.1) ↔ x ∈ l.map (·.1) ∨ x = k := by
  rw [putL_keys]
  split
  · rename_i h
    constructor
    · exact .inl
    · rintro (h1 | rfl)
      · exact h1
      · exact h
  · simp
theorem putL_len {α β : Type} [DecidableEq α] (l : List (α × β)) (k : α) (v : β) : (putL l k v).length ≤ l.length + 1 := by
  have := congrArg List.length (putL_keys l k v)
  rw [List.length_map] at this
  rw [this]
  split <;> simp
theorem putL_vals {α β : Type} [DecidableEq α] {l : List (α × β)} {k : α} {v : β} {p : α × β} (h : p ∈ putL l k v) : p ∈ l ∨ p.2 = v := by
  induction l with
  | nil => simp [putL] at h; exact .inr (by rw [h])
  | cons q l ih =>
    obtain ⟨a, b⟩ := q
    unfold putL at h
    split at h
    · rcases List.mem_cons.1 h with rfl | h
      · exact .inr rfl
      · exact .inl (List.mem_cons_of_mem _ h)
    · rcases List.mem_cons.1 h with rfl | h
      · exact .inl (List.mem_cons_self ..)
      · exact (ih h).imp (List.mem_cons_of_mem _) id
theorem nodup_le' {α : Type} [DecidableEq α] : ∀ {l m : List α}, l.Nodup → (∀ x ∈ l, x ∈ m) → l.length ≤ m.length
  | [], _, _, _ => Nat.zero_le _
  | x :: xs, m, h, hs => by
    obtain ⟨h1, h2⟩ := List.nodup_cons.1 h
    have hx := hs x (List.mem_cons_self ..)
    have := nodup_le' (l := xs) (m := m.erase x) h2 (fun y hy => (List.mem_erase_of_ne (fun e => h1 (by rw [← e]; exact hy))).2 (hs y (List.mem_cons_of_mem _ hy)))
    rw [List.length_erase_of_mem hx] at this
    have hp := List.length_pos_of_mem hx
    rw [List.length_cons]
    omega
/-- A rule names a predicate. -/
def usedBy (r : Rule) (x : ByteArray) : Prop := x = r.head.pred ∨ ∃ l ∈ r.body, l.kind ≠ 3 ∧ x = l.atom.pred
theorem nmB_mem (x : ByteArray) : ∀ (ls : List K.Lit) (N : AL Nat), x ∈ (ls.foldl nmL N).map (·.1) ↔ x ∈ N.map (·.1) ∨ ∃ l ∈ ls, l.kind ≠ 3 ∧ x = l.atom.pred
  | [], N => by simp
  | l :: ls, N => by
    rw [List.foldl_cons, nmB_mem x ls]
    unfold nmL
    by_cases h : l.kind = 3
    · rw [if_pos h]; simp [h]
    · rw [if_neg h, putL_mem]; simp [h, or_assoc]
theorem nmR_mem (x : ByteArray) : ∀ (rs : List Rule) (N : AL Nat), x ∈ (rs.foldl nmR N).map (·.1) ↔ x ∈ N.map (·.1) ∨ ∃ r ∈ rs, usedBy r x
  | [], N => by simp
  | r :: rs, N => by
    rw [List.foldl_cons, nmR_mem x rs]
    unfold nmR
    rw [nmB_mem, putL_mem]
    unfold usedBy
    simp only [List.mem_cons, exists_eq_or_imp, or_assoc]
theorem nm_mem (x : ByteArray) (rs : List Rule) : x ∈ (nmP rs).map (·.1) ↔ ∃ r ∈ rs, usedBy r x := by
  unfold nmP; rw [nmR_mem]; simp
theorem nmB_nodup : ∀ (ls : List K.Lit) (N : AL Nat), (N.map (·.1)).Nodup → ((ls.foldl nmL N).map (·.1)).Nodup
  | [], _, h => h
  | l :: ls, N, h => by
    rw [List.foldl_cons]
    refine nmB_nodup ls _ ?_
    unfold nmL
    split
    · exact h
    · exact putL_nodup h _ _
theorem nmR_nodup : ∀ (rs : List Rule) (N : AL Nat), (N.map (·.1)).Nodup → ((rs.foldl nmR N).map (·.1)).Nodup
  | [], _, h => h
  | r :: rs, N, h => by
    rw [List.foldl_cons]
    exact nmR_nodup rs _ (nmB_nodup _ _ (putL_nodup h _ _))
theorem nm_nodup (rs : List Rule) : ((nmP rs).map (·.1)).Nodup := nmR_nodup rs [] (by simp)
/-- What holds of every pair and its weight. -/
theorem pqB_all (T : ByteArray × ByteArray → Prop) (h : ByteArray) (ag : Bool) : ∀ (ls : List K.Lit) (Q : PL), (∀ l ∈ ls, l.kind ≠ 3 → T (h, l.atom.pred)) → ((Q.map (·.1)).Nodup ∧ ∀ p ∈ Q, T p.1 ∧ p.2 ≤ 1) →
    (((ls.foldl (pqL h ag) Q).map (·.1)).Nodup ∧ ∀ p ∈ ls.foldl (pqL h ag) Q, T p.1 ∧ p.2 ≤ 1) ∧ (ls.foldl (pqL h ag) Q).length ≤ Q.length + ls.length
  | [], Q, _, hq => ⟨hq, by simp⟩
  | l :: ls, Q, hl, hq => by
    rw [List.foldl_cons]
    have hs : ((((pqL h ag Q l).map (·.1)).Nodup ∧ ∀ p ∈ pqL h ag Q l, T p.1 ∧ p.2 ≤ 1)) ∧ (pqL h ag Q l).length ≤ Q.length + 1 := by
      unfold pqL
      by_cases hk : l.kind = 3
      · rw [if_pos hk]; exact ⟨hq, by omega⟩
      · rw [if_neg hk]
        refine ⟨⟨putL_nodup hq.1 _ _, fun p hp => ?_⟩, putL_len _ _ _⟩
        have h1 : p.1 ∈ (putL Q (h, l.atom.pred) (max ((getL Q (h, l.atom.pred)).getD 0) (wt1 ag l))).map (·.1) := List.mem_map.2 ⟨p, hp, rfl⟩
        have hT : T p.1 := by
          rcases (putL_mem _ _ _ _).1 h1 with h2 | h2
          · obtain ⟨q, hq1, hq2⟩ := List.mem_map.1 h2
            rw [← hq2]
            exact (hq.2 q hq1).1
          · rw [h2]; exact hl l (List.mem_cons_self ..) hk
        refine ⟨hT, ?_⟩
        rcases putL_vals hp with h2 | h2
        · exact (hq.2 p h2).2
        · rw [h2]
          have w1 : wt1 ag l ≤ 1 := by unfold wt1; split <;> (try split) <;> omega
          have g1 : (getL Q (h, l.atom.pred)).getD 0 ≤ 1 := by
            cases hg : getL Q (h, l.atom.pred) with
            | none => simp
            | some v =>
              have hm : ∃ p ∈ Q, p.2 = v := by
                have : ∀ (Q : PL), getL Q (h, l.atom.pred) = some v → ∃ p ∈ Q, p.2 = v := by
                  intro Q
                  induction Q with
                  | nil => intro h; cases h
                  | cons q Q ih =>
                    intro hh
                    obtain ⟨a, b⟩ := q
                    unfold getL at hh
                    split at hh
                    · exact ⟨(a, b), List.mem_cons_self .., by simpa using hh⟩
                    · obtain ⟨p, hp1, hp2⟩ := ih hh
                      exact ⟨p, List.mem_cons_of_mem _ hp1, hp2⟩
                exact this Q hg
              obtain ⟨p, hp1, hp2⟩ := hm
              have := (hq.2 p hp1).2
              simp
              omega
          omega
    obtain ⟨h1, h2⟩ := pqB_all T h ag ls _ (fun x hx => hl x (List.mem_cons_of_mem _ hx)) hs.1
    exact ⟨h1, by rw [List.length_cons]; omega⟩
theorem pqR_all (T : ByteArray × ByteArray → Prop) (m : Nat) : ∀ (rs : List Rule) (Q : PL), (∀ r ∈ rs, r.body.length ≤ m ∧ ∀ l ∈ r.body, l.kind ≠ 3 → T (r.head.pred, l.atom.pred)) → ((Q.map (·.1)).Nodup ∧ ∀ p ∈ Q, T p.1 ∧ p.2 ≤ 1) →
    (((rs.foldl pqR Q).map (·.1)).Nodup ∧ ∀ p ∈ rs.foldl pqR Q, T p.1 ∧ p.2 ≤ 1) ∧ (rs.foldl pqR Q).length ≤ Q.length + m * rs.length
  | [], Q, _, hq => ⟨hq, by simp⟩
  | r :: rs, Q, hl, hq => by
    rw [List.foldl_cons]
    obtain ⟨h1, h2⟩ := pqB_all T r.head.pred (r.head.terms.any aggT) r.body Q (hl r (List.mem_cons_self ..)).2 hq
    obtain ⟨h3, h4⟩ := pqR_all T m rs (pqR Q r) (fun x hx => hl x (List.mem_cons_of_mem _ hx)) h1
    have h5 := (hl r (List.mem_cons_self ..)).1
    refine ⟨h3, ?_⟩
    have h6 : (pqR Q r).length ≤ Q.length + r.body.length := h2
    rw [List.length_cons, Nat.mul_add]
    omega
theorem mayLit_kind {l : K.Lit} (h : K.mayLit l = 0) : l.kind = 1 ∨ l.kind = 2 ∨ l.kind = 3 := by
  unfold K.mayLit at h
  split at h
  · rename_i h1
    rcases h1.1 with h2 | h2
    · exact .inl h2
    · exact .inr (.inl h2)
  · split at h
    · simp at h
    · rename_i h2
      refine .inr (.inr ?_)
      false_or_by_contra
      rename_i q
      exact h2 (.inl q)
theorem used_uses {r : Rule} (h : mayRule r = 0) {x : ByteArray} (hx : usedBy r x) : x ∈ (usesR r).map (·.1) := by
  have hb : ∀ l ∈ r.body, K.mayLit l = 0 := by
    unfold K.mayRule at h
    split at h
    · rename_i hm
      exact absurd h hm
    · split at h
      · simp at h
      · exact mayLits_mem h
  rcases hx with rfl | ⟨l, hl, hk, rfl⟩
  · simp [K.usesR]
  · unfold K.usesR
    rw [List.map_cons]
    refine List.mem_cons_of_mem _ ?_
    unfold K.usesB
    rw [List.map_map]
    refine List.mem_map.2 ⟨l, List.mem_filter.2 ⟨hl, ?_⟩, rfl⟩
    rcases mayLit_kind (hb l hl) with h1 | h1 | h1
    · simp [h1]
    · simp [h1]
    · exact absurd h1 hk
theorem fitA_mem {a : AL Nat} {k : ByteArray} {n : Nat} {x : ByteArray} (h : x ∈ a.map (·.1) ∨ x = k) : x ∈ (fitA a k n).1.map (·.1) := by
  unfold K.fitA
  cases hl : K.lookA a k with
  | none =>
    simp only [putA_eq]
    exact (putL_mem a k x n).2 h
  | some m =>
    simp only
    rcases h with h | rfl
    · exact h
    · false_or_by_contra
      rename_i q
      rw [lookA_eq, getL_none.2 q] at hl
      cases hl
theorem fitU_mem {x : ByteArray} : ∀ (us : List (ByteArray × Nat)) (a : AL Nat), (fitU a us).2 = true → (x ∈ a.map (·.1) ∨ x ∈ us.map (·.1)) → x ∈ (fitU a us).1.map (·.1)
  | [], a, _, h => by
    rcases h with h | h
    · exact h
    · simp at h
  | (k, n) :: us, a, h0, h => by
    unfold K.fitU at h0 ⊢
    split at h0
    · rename_i hq
      rw [if_pos hq]
      refine fitU_mem us _ h0 ?_
      rw [List.map_cons, List.mem_cons] at h
      rcases h with h | h | h
      · exact .inl (fitA_mem (.inl h))
      · exact .inl (fitA_mem (.inr h))
      · exact .inr h
    · cases h0
theorem chk_names : ∀ (rs : List Rule) (a : AL Nat), checkGo rs a = 0 → a.length ≤ 512 → ∃ a' : AL Nat, a'.length ≤ 512 ∧ (∀ x ∈ a.map (·.1), x ∈ a'.map (·.1)) ∧ (∀ r ∈ rs, mayRule r = 0 ∧ ∀ x, usedBy r x → x ∈ a'.map (·.1))
  | [], a, _, ha => ⟨a, ha, fun _ h => h, by simp⟩
  | r :: rs, a, h, ha => by
    unfold K.checkGo at h
    split at h
    · rename_i hm
      exact absurd h hm
    · rename_i hm
      have hm : mayRule r = 0 := by simpa using hm
      split at h
      · simp at h
      · rename_i h2
        split at h
        · simp at h
        · rename_i h3
          split at h
          · simp at h
          · have h2' : (fitU a (usesR r)).2 = true := by simpa using h2
            obtain ⟨a', h4, h5, h6⟩ := chk_names rs _ h (by omega)
            refine ⟨a', h4, fun x hx => h5 x (fitU_mem _ _ h2' (.inl hx)), fun q hq => ?_⟩
            rcases List.mem_cons.1 hq with rfl | hq
            · exact ⟨hm, fun x hx => h5 x (fitU_mem _ _ h2' (.inr (used_uses hm hx)))⟩
            · exact h6 q hq
theorem checkP_go {rs : List Rule} (h : checkP rs = 0) : rs.length ≤ 1024 ∧ checkGo rs [] = 0 := by
  unfold K.checkP at h
  split at h
  · simp at h
  · exact ⟨by omega, h⟩
theorem names_few {rs : List Rule} (h : checkP rs = 0) : (nmP rs).length ≤ 512 := by
  obtain ⟨a', h1, _, h2⟩ := chk_names rs [] (checkP_go h).2 (by simp)
  have := nodup_le' (nm_nodup rs) (m := a'.map (·.1)) fun x hx => by
    obtain ⟨r, hr, hu⟩ := (nm_mem x rs).1 hx
    exact (h2 r hr).2 x hu
  simp only [List.length_map] at this
  omega
theorem may_body {r : Rule} (h : mayRule r = 0) : r.body.length ≤ 64 := by
  unfold K.mayRule at h
  split at h
  · rename_i hm
    exact absurd h hm
  · split at h
    · simp at h
    · omega
theorem pairs_all {rs : List Rule} (h : checkP rs = 0) : ((pqP rs).map (·.1)).Nodup ∧ (∀ p ∈ pqP rs, (p.1.1 ∈ (nmP rs).map (·.1) ∧ p.1.2 ∈ (nmP rs).map (·.1)) ∧ p.2 ≤ 1) ∧ (pqP rs).length ≤ 65536 := by
  obtain ⟨a', h1, _, h2⟩ := chk_names rs [] (checkP_go h).2 (by simp)
  obtain ⟨⟨q1, q2⟩, q3⟩ := pqR_all (fun p => p.1 ∈ (nmP rs).map (·.1) ∧ p.2 ∈ (nmP rs).map (·.1)) 64 rs [] (fun r hr => ⟨may_body (h2 r hr).1, fun l hl hk => ⟨(nm_mem _ _).2 ⟨r, hr, .inl rfl⟩, (nm_mem _ _).2 ⟨r, hr, .inr ⟨l, hl, hk, rfl⟩⟩⟩⟩) ⟨by simp, by simp⟩
  refine ⟨q1, q2, ?_⟩
  have := (checkP_go h).1
  have q4 : (pqP rs).length ≤ 0 + 64 * rs.length := q3
  omega
abbrev leS (x y : List UInt8) : Bool := decide (x ≤ y)
def bsOf (l : List UInt8) : ByteArray := ⟨l.toArray⟩
/-- A program's predicates, rising. -/
def namesQ (rs : List Rule) : List ByteArray := (((nmP rs).map fun p => p.1.data.toList).mergeSort leS).map bsOf
theorem names_of {rs : List Rule} {ss : List (List UInt8)} (h : ss.Perm ((nmP rs).map fun p => p.1.data.toList)) : (ss.mergeSort leS).map bsOf = namesQ rs := by
  unfold namesQ
  rw [show ss.mergeSort leS = ((nmP rs).map fun p => p.1.data.toList).mergeSort leS from mergeSort_of_perm h]
theorem namesQ_perm (rs : List Rule) : (namesQ rs).Perm ((nmP rs).map (·.1)) := by
  have h := ((List.mergeSort_perm ((nmP rs).map fun p => p.1.data.toList) leS).map bsOf)
  rw [List.map_map] at h
  have e : (nmP rs).map (bsOf ∘ fun p => p.1.data.toList) = (nmP rs).map (·.1) := List.map_congr_left fun p _ => by
    show bsOf p.1.data.toList = p.1
    simp [bsOf]
  rw [e] at h
  exact h
theorem namesQ_nodup (rs : List Rule) : (namesQ rs).Nodup := (namesQ_perm rs).nodup_iff.2 (nm_nodup rs)
theorem namesQ_mem (rs : List Rule) (x : ByteArray) : x ∈ namesQ rs ↔ ∃ r ∈ rs, usedBy r x := by rw [(namesQ_perm rs).mem_iff, nm_mem]
theorem namesQ_len (rs : List Rule) : (namesQ rs).length = (nmP rs).length := by rw [(namesQ_perm rs).length_eq, List.length_map]
def edgeQ (ns : List ByteArray) (p : (ByteArray × ByteArray) × Nat) : K.Edge := ⟨(ns.idxOf p.1.1 : Nat), (ns.idxOf p.1.2 : Nat), (p.2 : Nat)⟩
def edgesQ (rs : List Rule) : List K.Edge := ((pqP rs).map (edgeQ (namesQ rs))).mergeSort fun x y => !ltOf cmpE y x
theorem idxOf_inj {ns : List ByteArray} {x y : ByteArray} (hx : x ∈ ns) (h : ns.idxOf x = ns.idxOf y) : x = y := by
  have h1 : ns.idxOf x < ns.length := List.idxOf_lt_length_of_mem hx
  have e1 := List.getElem_idxOf h1
  have h2 : ns.idxOf y < ns.length := by omega
  have e2 := List.getElem_idxOf h2
  rw [← e1, ← e2]
  congr 1
theorem edges_one {rs : List Rule} (hc : checkP rs = 0) {d d' : Array K.Edge} (hd : d.toList.Perm ((pqP rs).map (edgeQ (namesQ rs)))) (hP : PermIn 0 d.size d d') (hSo : SortedIn (ltOf cmpE) 0 d.size d') : d'.toList = edgesQ rs := by
  obtain ⟨hsz, _, hperm⟩ := hP
  have e1 : d'.extract 0 d.size = d' := by rw [← hsz]; exact Array.extract_size
  rw [e1, Array.extract_size] at hperm
  have hp2 : d'.toList.Perm ((pqP rs).map (edgeQ (namesQ rs))) := hperm.trans hd
  unfold edgesQ
  refine List.Perm.eq_of_pairwise (le := fun x y => (!ltOf cmpE y x) = true) ?_ ?_ ?_ (hp2.trans (List.mergeSort_perm _ _).symm)
  · intro a b ha hb h1 h2
    simp only [Bool.not_eq_true'] at h1 h2
    obtain ⟨q1, q2, _⟩ := pairs_all hc
    obtain ⟨p, hp, rfl⟩ := List.mem_map.1 (hp2.mem_iff.1 ha)
    obtain ⟨p', hp', rfl⟩ := List.mem_map.1 ((List.mergeSort_perm _ _).mem_iff.1 hb)
    rw [ltE_eq] at h1 h2
    simp only [edgeQ, Bool.or_eq_false_iff, Bool.and_eq_false_iff, decide_eq_false_iff_not, Int.ofNat_lt, Int.ofNat_inj] at h1 h2
    have i1 : (namesQ rs).idxOf p.1.1 = (namesQ rs).idxOf p'.1.1 := by omega
    have i2 : (namesQ rs).idxOf p.1.2 = (namesQ rs).idxOf p'.1.2 := by omega
    have m1 : p.1.1 ∈ namesQ rs := (namesQ_perm rs).mem_iff.2 (q2 p hp).1.1
    have m2 : p.1.2 ∈ namesQ rs := (namesQ_perm rs).mem_iff.2 (q2 p hp).1.2
    have e3 : p.1 = p'.1 := Prod.ext (idxOf_inj m1 i1) (idxOf_inj m2 i2)
    have e4 : p = p' := by
      obtain ⟨i, hi⟩ := List.mem_iff_getElem?.1 hp
      obtain ⟨j, hj⟩ := List.mem_iff_getElem?.1 hp'
      have hi' : ((pqP rs).map (·.1))[i]? = some p.1 := by rw [List.getElem?_map, hi]; rfl
      have hj' : ((pqP rs).map (·.1))[j]? = some p.1 := by rw [List.getElem?_map, hj, e3]; rfl
      have hil := (List.getElem?_eq_some_iff.1 hi').1
      have hij : i = j := (List.getElem?_inj hil q1).1 (by rw [hi', hj'])
      rw [hij, hj] at hi
      cases hi
      rfl
    rw [e4]
  · rw [List.pairwise_iff_getElem]
    intro i j hi hj hij
    have hi' : i < d'.size := by simpa using hi
    have hj' : j < d'.size := by simpa using hj
    have := hSo i j (Nat.zero_le _) hij (by omega)
    rw [getElem!_pos d' j hj', getElem!_pos d' i hi'] at this
    simpa using this
  · refine List.pairwise_mergeSort ?_ ?_ _
    · intro a b c h1 h2
      simp only [Bool.not_eq_true'] at h1 h2 ⊢
      exact swoE.ntrans c b a h2 h1
    · intro a b
      cases h : ltOf cmpE b a with
      | false => simp
      | true => simp [swoE.asymmA h]
theorem edgesQ_ok {rs : List Rule} (hc : checkP rs = 0) : (edgesQ rs).length ≤ 65536 ∧ ∀ e ∈ edgesQ rs, 0 ≤ e.src ∧ e.src < ((namesQ rs).length : Int) ∧ 0 ≤ e.dst ∧ e.dst < ((namesQ rs).length : Int) ∧ 0 ≤ e.wt ∧ e.wt ≤ 1 := by
  obtain ⟨q1, q2, q3⟩ := pairs_all hc
  have hp : (edgesQ rs).Perm ((pqP rs).map (edgeQ (namesQ rs))) := List.mergeSort_perm _ _
  refine ⟨by rw [hp.length_eq, List.length_map]; exact q3, fun e he => ?_⟩
  obtain ⟨p, hp', rfl⟩ := List.mem_map.1 (hp.mem_iff.1 he)
  have m1 : p.1.1 ∈ namesQ rs := (namesQ_perm rs).mem_iff.2 (q2 p hp').1.1
  have m2 : p.1.2 ∈ namesQ rs := (namesQ_perm rs).mem_iff.2 (q2 p hp').1.2
  have l1 := List.idxOf_lt_length_of_mem m1
  have l2 := List.idxOf_lt_length_of_mem m2
  have l3 := (q2 p hp').2
  simp only [edgeQ]
  refine ⟨?_, ?_, ?_, ?_, ?_, ?_⟩ <;> omega
end Go.Proofs.YtlalgaioiapjmaaGreatDoor
