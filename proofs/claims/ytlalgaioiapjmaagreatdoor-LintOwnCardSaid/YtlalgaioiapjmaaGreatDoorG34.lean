/- The walk of print.Alike. The walks of lint's looks Alike and Within. The walk of lint's look Within. -/
import Derived.Test.YtlalgaioiapjmaaGreatDoorG29
import Derived.Test.YtlalgaioiapjmaaGreatDoorG33
namespace Go.Proofs.YtlalgaioiapjmaaGreatDoor
open Go.ChangeShapes Go.WideShapes Go.ChangeAt Go.RowKit
open K (Rule Term Atom TermsAt LitsAt RuleV)
def alikeB (r s : Rule) : Bool := decide (K.mayRule r = 0) && (decide (K.mayRule s = 0) && (decide ((normalV r).head = (normalV s).head) && decide ((normalV r).body = (normalV s).body)))
/-- What Normal answers, in one shape. -/
def NormOut (r : Rule) (w : World) (e : Ending) (w' : World) : Prop :=
  ∃ (p : ByteArray) (ah : Option Addr) (nh ch : Nat) (ab : Option Addr) (nb cb : Nat), e = .returned (.tuple #[.agg #[.string p, .slice ah nh ch, .slice ab nb cb], .int .i64 (K.mayRule r)]) ∧ Ext w w' ∧ (K.mayRule r = 0 → p = r.head.pred ∧ TermsAt w' ah nh (normalV r).head.terms ∧ LitsAt w' ab nb (normalV r).body)
theorem NormPost.out {r : Rule} {w : World} {e : Ending} {w' : World} (h : NormPost r w e w') : NormOut r w e w' := by
  unfold NormPost at h
  by_cases h0 : K.mayRule r = 0
  · rw [if_pos h0] at h
    obtain ⟨ah, ch, ab, nb, cb, rfl, h1, h2, h3⟩ := h
    exact ⟨_, ah, _, ch, ab, nb, cb, by rw [h0], h3, fun _ => ⟨rfl, h1, h2⟩⟩
  · rw [if_neg h0] at h
    obtain ⟨rfl, h3⟩ := h
    exact ⟨_, none, 0, 0, none, 0, 0, rfl, h3, fun h => absurd h h0⟩
set_option maxRecDepth 100000 in
set_option maxHeartbeats 4000000 in
theorem c_Alike (r s : Rule) (ah : Option Addr) (nh ch : Nat) (ab : Option Addr) (nb cb : Nat) (ah' : Option Addr) (nh' ch' : Nat) (ab' : Option Addr) (nb' cb' : Nat) (w : World) (hr : RuleV w r ah nh ch ab nb cb) (hs : RuleV w s ah' nh' ch' ab' nb' cb') (hT : TabOk w) :
    Calls Tryz.prog 49 #[.agg #[.string r.head.pred, .slice ah nh ch, .slice ab nb cb], .agg #[.string s.head.pred, .slice ah' nh' ch', .slice ab' nb' cb']] w fun e w' => e = .returned (.bool (alikeB r s)) ∧ Ext w w' := by
  have CR : Hid (∀ W, Ext w W → Calls Tryz.prog 78 #[.agg #[.string r.head.pred, .slice ah nh ch, .slice ab nb cb]] W (NormOut r W)) := fun W e => (c_Normal r ah nh ch ab nb cb W (hr.keep e) (hT.ext e)).mono fun _ _ h => h.out
  have CS : Hid (∀ W, Ext w W → Calls Tryz.prog 78 #[.agg #[.string s.head.pred, .slice ah' nh' ch', .slice ab' nb' cb']] W (NormOut s W)) := fun W e => (c_Normal s ah' nh' ch' ab' nb' cb' W (hs.keep e) (hT.ext e)).mono fun _ _ h => h.out
  clear hr hs hT
  go_enter Tryz.func49, Tryz.ntmps49
  go_upto_region 1 with (fail)
  refine wp_gen (fun W hW => ?_)
  have E0 : Ext w W := by rw [hW]; exact ext_alloc (ext_alloc (Below.refl _ _) _) _
  have B0 : Blk W w.heap.size 50 [.string r.head.pred, .slice ah nh ch, .slice ab nb cb] := by
    rw [hW]
    exact (Blk.new w [.string r.head.pred, .slice ah nh ch, .slice ab nb cb] 50).ext (ext_alloc (Below.refl _ _) _)
  have B1 : Blk W (w.heap.size + 1) 50 [.string s.head.pred, .slice ah' nh' ch', .slice ab' nb' cb'] := by
    rw [hW]
    have := Blk.new (w.alloc (.cells #[.string r.head.pred, .slice ah nh ch, .slice ab nb cb] 50)) [.string s.head.pred, .slice ah' nh' ch', .slice ab' nb' cb'] 50
    rw [World.size_alloc] at this
    exact this
  have x0 := B0.cell (i := 0) rfl
  have x1 := B0.cell (i := 1) rfl
  have x2 := B0.cell (i := 2) rfl
  have CRW := Lib.hid (CR.out W E0)
  have HB1 := Lib.hid B1
  have HE := Lib.hid E0
  obtain ⟨rb, hrb⟩ : ∃ rb, w.heap.size = rb := ⟨_, rfl⟩
  rw [hrb] at x0 x1 x2 HB1 ⊢
  clear hW E0 B0 B1 CR hrb
  go_upto_region 2 with (go_at_call 78; (with_reducible refine CRW.out.mono ?_); unfold NormOut; rintro e w2 ⟨p2, a2, n2, c2, b2, m2, d2, rfl, E2, Q2⟩; have HB2 := Lib.hid (HB1.out.ext E2); have HQ2 := Lib.hid Q2; have HE2 := Lib.hid (ext_trans HE.out E2); clear E2 Q2)
  refine wp_gen (fun W3 hW3 => ?_)
  have E3 : Ext w2 W3 := by rw [hW3]; exact ext_alloc (Below.refl _ _) _
  have B3 : Blk W3 w2.heap.size 50 [.string p2, .slice a2 n2 c2, .slice b2 m2 d2] := by
    rw [hW3]
    exact Blk.new w2 [.string p2, .slice a2 n2 c2, .slice b2 m2 d2] 50
  have B1' := HB2.out.ext E3
  have y0 := B1'.cell (i := 0) rfl
  have y1 := B1'.cell (i := 1) rfl
  have y2 := B1'.cell (i := 2) rfl
  have CSW := Lib.hid (CS.out W3 (ext_trans HE2.out E3))
  have HB3 := Lib.hid B3
  have HE3 := Lib.hid (ext_trans HE2.out E3)
  have HE23 := Lib.hid E3
  obtain ⟨sb, hsb⟩ : ∃ sb, w2.heap.size = sb := ⟨_, rfl⟩
  rw [hsb] at HB3 ⊢
  clear hW3 E3 B3 B1' CS hsb CRW HB1 HB2 x0 x1 x2
  go_upto_region 3 with (go_at_call 78; (with_reducible refine CSW.out.mono ?_); unfold NormOut; rintro e w4 ⟨p4, a4, n4, c4, b4, m4, d4, rfl, E4, Q4⟩; have HB4 := Lib.hid (HB3.out.ext E4); have HQ4 := Lib.hid Q4; have HE4 := Lib.hid (ext_trans HE3.out E4); have HE24 := Lib.hid (ext_trans HE23.out E4); clear E4 Q4)
  refine wp_gen (fun W5 hW5 => ?_)
  have E5 : Ext w4 W5 := by rw [hW5]; exact ext_alloc (Below.refl _ _) _
  have B5 : Blk W5 w4.heap.size 50 [.string p4, .slice a4 n4 c4, .slice b4 m4 d4] := by
    rw [hW5]
    exact Blk.new w4 [.string p4, .slice a4 n4 c4, .slice b4 m4 d4] 50
  have B3' := HB4.out.ext E5
  have HE5 := Lib.hid (ext_trans HE4.out E5)
  have E45 := Lib.hid E5
  obtain ⟨tb, htb⟩ : ∃ tb, w4.heap.size = tb := ⟨_, rfl⟩
  rw [htb] at B5 ⊢
  have v0 := B3'.cell (i := 0) rfl
  have v1 := B3'.cell (i := 1) rfl
  have v2 := B3'.cell (i := 2) rfl
  have u0 := B5.cell (i := 0) rfl
  have u1 := B5.cell (i := 1) rfl
  have u2 := B5.cell (i := 2) rfl
  obtain ⟨t1, ht1⟩ : ∃ b, (K.mayRule r == 0) = b := ⟨_, rfl⟩
  obtain ⟨t2, ht2⟩ : ∃ b, (K.mayRule s == 0) = b := ⟨_, rfl⟩
  obtain ⟨t3, ht3⟩ : ∃ b, decide ((normalV r).head = (normalV s).head) = b := ⟨_, rfl⟩
  obtain ⟨t4, ht4⟩ : ∃ b, decide ((normalV r).body = (normalV s).body) = b := ⟨_, rfl⟩
  have RES : Hid (alikeB r s = (t1 && (t2 && (t3 && t4)))) := by
    show _ = _
    unfold alikeB
    rw [ht3, ht4, ← ht1, ← ht2, Bool.beq_eq_decide_eq, Bool.beq_eq_decide_eq]
  clear hW5 E5 B5 B3' htb CSW HB3 HB4 y0 y1 y2 HE3 HE23
  cases t1 with
  | false =>
    go_wp2
    go_returns
    exact ⟨by rw [RES.out]; rfl, HE5.out⟩
  | true =>
    cases t2 with
    | false =>
      go_wp2
      go_returns
      exact ⟨by rw [RES.out]; rfl, HE5.out⟩
    | true =>
      obtain ⟨rfl, T2, L2⟩ := HQ2.out (by simpa using ht1)
      obtain ⟨rfl, T4, L4⟩ := HQ4.out (by simpa using ht2)
      have SA : Hid (∀ W', Ext w4 W' → Calls Tryz.prog 79 #[.agg #[.string r.head.pred, .slice a2 n2 c2], .agg #[.string s.head.pred, .slice a4 n4 c4]] W' fun e w' => e = .returned (.bool t3) ∧ Ext W' w') := fun W' e => by
        have := c_sameAtomP r.head.pred s.head.pred (normalV r).head.terms (normalV s).head.terms a2 a4 n2 n4 c2 c4 W' (T2.keep (ext_trans HE24.out e)) (T4.keep e)
        rw [← ht3]
        exact this
      have SL : Hid (∀ W', Ext w4 W' → Calls Tryz.prog 80 #[.slice b2 m2 d2, .slice b4 m4 d4, .func (.func 81) #[] #[]] W' fun e w' => e = .returned (.bool t4) ∧ Ext W' w') := fun W' e => by
        rw [← ht4]
        exact c_eqLits (normalV r).body (normalV s).body b2 b4 m2 m4 d2 d4 W' (L2.keep (ext_trans HE24.out e)) (L4.keep e)
      clear T2 T4 L2 L4 HQ2 HQ4 ht3 ht4 HE24
      cases t3 with
      | false =>
        go_wp2_with (go_at_call 79; (with_reducible refine (SA.out _ E45.out).mono ?_); rintro e w6 ⟨rfl, E6⟩)
        go_returns
        exact ⟨by rw [RES.out]; rfl, ext_trans HE5.out E6⟩
      | true =>
        go_wp2_with (first | (go_at_call 79; (with_reducible refine (SA.out _ E45.out).mono ?_); rintro e w6 ⟨rfl, E6⟩; have v2 := keep E6 v2; have u2 := keep E6 u2) | (go_at_call 80; (with_reducible refine (SL.out _ (ext_trans E45.out E6)).mono ?_); rintro e w7 ⟨rfl, E7⟩) | fail)
        go_returns
        exact ⟨by rw [RES.out]; rfl, ext_trans HE5.out (ext_trans E6 E7)⟩
end Go.Proofs.YtlalgaioiapjmaaGreatDoor
namespace Go.Proofs.YtlalgaioiapjmaaGreatDoor
open Go.ChangeShapes Go.WideShapes Go.ChangeAt Go.RowKit
open K (Rule Term Atom TermsAt LitsAt RuleV Finding)
theorem rules_take {w : World} {a : Option Addr} {n : Nat} {rs : List Rule} (h : RulesAt w a n rs) {k : Nat} (hk : k ≤ n) : RulesAt w a k (rs.take k) := by
  refine ⟨Nat.le_trans hk h.1, by rw [List.length_take, h.2.1]; omega, fun i l hl => ?_⟩
  have hik : i < k := by
    have := (List.getElem?_eq_some_iff.1 hl).1
    rw [List.length_take] at this
    omega
  rw [List.getElem?_take, if_pos hik] at hl
  exact h.2.2 i l hl
theorem c_ot1 (r s : Rule) (ah : Option Addr) (nh ch : Nat) (ab : Option Addr) (nb cb : Nat) (ah' : Option Addr) (nh' ch' : Nat) (ab' : Option Addr) (nb' cb' rb : Nat) (w : World) (hr : RuleV w r ah nh ch ab nb cb) (hs : RuleV w s ah' nh' ch' ab' nb' cb') (hT : TabOk w) (y0 : w.cell? ⟨rb, 0, none⟩ = some (.string r.head.pred)) (y1 : w.cell? ⟨rb, 1, none⟩ = some (.slice ah nh ch)) (y2 : w.cell? ⟨rb, 2, none⟩ = some (.slice ab nb cb)) :
    Calls Tryz.prog 48 #[.agg #[.string s.head.pred, .slice ah' nh' ch', .slice ab' nb' cb'], .pointer (some ⟨rb, 0, none⟩)] w fun e w' => e = .returned (.bool (alikeB r s)) ∧ Ext w w' := by
  have EE : ∀ o : Obj, Ext w (w.alloc o) := fun o => ext_alloc (Below.refl _ _) _
  have CA : Hid (∀ o, Calls Tryz.prog 49 #[.agg #[.string r.head.pred, .slice ah nh ch, .slice ab nb cb], .agg #[.string s.head.pred, .slice ah' nh' ch', .slice ab' nb' cb']] (w.alloc o) fun e w' => e = .returned (.bool (alikeB r s)) ∧ Ext (w.alloc o) w') := fun o => c_Alike r s ah nh ch ab nb cb ah' nh' ch' ab' nb' cb' _ (hr.keep (EE o)) (hs.keep (EE o)) (hT.ext (EE o))
  have y0 := fun o => keep (EE o) y0
  have y1 := fun o => keep (EE o) y1
  have y2 := fun o => keep (EE o) y2
  clear hr hs hT
  go_enter Tryz.func48, Tryz.ntmps48
  go_wp2_with (go_at_call 49; (with_reducible refine (CA.out _).mono ?_); rintro e w2 ⟨rfl, hE⟩)
  go_returns
  exact ⟨rfl, ext_after hE (EE _)⟩
/-- IndexFunc at rules by lint's closure. -/
theorem c_IxRule (r : Rule) (ah : Option Addr) (nh ch : Nat) (ab : Option Addr) (nb cb rb : Nat) (rs : List Rule) (a : Option Addr) (n cap : Nat) (w : World) (hl : RulesAt w a n rs) (hr : RuleV w r ah nh ch ab nb cb) (hT : TabOk w) (y0 : w.cell? ⟨rb, 0, none⟩ = some (.string r.head.pred)) (y1 : w.cell? ⟨rb, 1, none⟩ = some (.slice ah nh ch)) (y2 : w.cell? ⟨rb, 2, none⟩ = some (.slice ab nb cb)) :
    Calls Tryz.prog 47 #[.slice a n cap, .func (.func 48) #[] #[.pointer (some ⟨rb, 0, none⟩)]] w fun e w' => e = .returned (.int .i64 (idxI (rs.findIdx? (alikeB r)))) ∧ Ext w w' := by
  have hn := hl.1
  have HL := Lib.hid hl.2.1
  have HT := Lib.hid hl
  have HQ : Hid (∀ W', Ext w W' → ∀ s ah' nh' ch' ab' nb' cb', RuleV W' s ah' nh' ch' ab' nb' cb' → Calls Tryz.prog 48 #[.agg #[.string s.head.pred, .slice ah' nh' ch', .slice ab' nb' cb'], .pointer (some ⟨rb, 0, none⟩)] W' fun e w' => e = .returned (.bool (alikeB r s)) ∧ Ext W' w') := fun W' e s ah' nh' ch' ab' nb' cb' hs => c_ot1 r s ah nh ch ab nb cb ah' nh' ch' ab' nb' cb' rb W' (hr.keep e) hs (hT.ext e) (keep e y0) (keep e y1) (keep e y2)
  clear hl hr hT y0 y1 y2
  go_enter Tryz.func47, Tryz.ntmps47
  go_wp2
  go_loopw [8] (fun i wr => ∃ k : Nat, k ≤ n ∧ i = .int .i64 (k : Int) ∧ Ext w wr ∧ ∀ y ∈ rs.take k, alikeB r y = false) (fun i _ => n - (intOf i).toNat)
  case atStart => exact ⟨0, Nat.zero_le _, rfl, Below.refl _ _, by simp⟩
  case round =>
    obtain ⟨k, hk, rfl, hb, hp⟩ := hrel
    have HP := Lib.hid hp
    have HB := Lib.hid hb
    clear hp
    by_cases hlt : ¬ k < n
    · have hki : ¬ (k : Int) < (n : Int) := by omega
      have RES : Hid (idxI (rs.findIdx? (alikeB r)) = -1) := by
        show _ = _
        have h := HP.out
        rw [List.take_of_length_le (by have := HL.out; omega)] at h
        rw [findIdx_no h]
        rfl
      clear hb
      go_wp2
      go_returns
      exact ⟨by rw [RES.out]; rfl, HB.out⟩
    · have hlt : k < n := by omega
      have hki : (k : Int) < (n : Int) := by omega
      obtain ⟨s, b, off, hrk, rfl, ah', nh', ch', ab', nb', cb', z0, z1, z2, hs⟩ := (HT.out.keep hb).2.at hlt
      obtain ⟨t, htt⟩ : ∃ t, alikeB r s = t := ⟨_, rfl⟩
      have SL : Hid (∀ W, Ext wr W → Calls Tryz.prog 48 #[.agg #[.string s.head.pred, .slice ah' nh' ch', .slice ab' nb' cb'], .pointer (some ⟨rb, 0, none⟩)] W fun e w' => e = .returned (.bool t) ∧ Ext W w') := fun W e => by
        rw [← htt]
        exact HQ.out W (ext_trans hb e) s ah' nh' ch' ab' nb' cb' (hs.keep e)
      have HLK := Lib.hid hrk
      have HTT := Lib.hid htt
      have HLT := Lib.hid hlt
      have EE : ∀ o : Obj, Ext wr (wr.alloc o) := fun o => ext_alloc (Below.refl _ _) _
      clear hb hrk htt hs
      cases t with
      | true =>
        have RES : Hid (idxI (rs.findIdx? (alikeB r)) = (k : Int)) := by
          show _ = _
          rw [findIdx_at HLK.out HTT.out HP.out]
          rfl
        go_wp2_with (go_at_call 48; (with_reducible refine (SL.out _ (by first | exact Below.refl _ _ | exact EE _)).mono ?_); rintro e w2 ⟨rfl, hE2⟩; have E2 := Lib.hid (ext_trans HB.out (ext_trans (by first | exact Below.refl _ _ | exact EE _) hE2)); clear hE2 EE)
        go_returns
        exact ⟨by rw [RES.out]; rfl, E2.out⟩
      | false =>
        go_wp2_with (go_at_call 48; (with_reducible refine (SL.out _ (by first | exact Below.refl _ _ | exact EE _)).mono ?_); rintro e w2 ⟨rfl, hE2⟩; have E2 := Lib.hid (ext_trans HB.out (ext_trans (by first | exact Below.refl _ _ | exact EE _) hE2)); clear hE2 EE)
        go_roundw
        case rel =>
          refine ⟨k + 1, HLT.out, by go_num, E2.out, ?_⟩
          rw [take_at HLK.out]
          intro y hy
          rcases List.mem_append.1 hy with h | h
          · exact HP.out y h
          · rw [List.mem_singleton.1 h]
            exact HTT.out
        case measure => have := HLT.out; simp [intOf]; omega
def lookA (rs : List Rule) (n : Nat) (r : Rule) : List Tell := tellO ((rs.take n).findIdx? (alikeB r))
set_option maxRecDepth 100000 in
set_option maxHeartbeats 4000000 in
theorem c_lookA {w0 W : World} {ob base lb nb : Nat} {kd : Int} {n : Nat} {F : List Finding} {C : Nat → Prop} (h : LookIn w0 ob base lb nb kd n F C W) (r : Rule) (ah : Option Addr) (nh ch : Nat) (ab : Option Addr) (bn cb : Nat) (hr : RuleV w0 r ah nh ch ab bn cb) (hT : TabOk w0) (rs : List Rule) (ra : Option Addr) (rn rc pb : Nat) (hrs : RulesAt w0 ra rn rs) (hn : n < rn) (hc : rn ≤ rc) (y0 : W.cell? ⟨pb, 0, none⟩ = some (.slice ra rn rc)) :
    Calls Tryz.prog 46 #[.int .i64 (n : Nat), .agg #[.string r.head.pred, .slice ah nh ch, .slice ab bn cb], .func (.func 18) #[] #[.pointer (some ⟨ob, 0, none⟩), .pointer (some ⟨lb, 0, none⟩), .pointer (some ⟨nb, 0, none⟩)], .pointer (some ⟨pb, 0, none⟩)] W (LookPost ob base C W F ((lookA rs n r).map (mkF kd n))) := by
  have H := Lib.hid h
  have HR := Lib.hid hr
  have HRS := Lib.hid hrs
  have HT := Lib.hid hT
  obtain ⟨b, off, hra⟩ : ∃ b off, ra = some ⟨b, off, none⟩ := by
    obtain ⟨_, b, off, _, h, _⟩ := hrs.2.at hn
    exact ⟨b, off, h⟩
  subst hra
  have hni : (n : Int) ≤ (rc : Int) := by omega
  clear h hr hrs hT
  go_enter Tryz.func46, Tryz.ntmps46
  go_upto_region 1 with (fail)
  refine wp_gen (fun W1 hW => ?_)
  obtain ⟨E0, x0, x1, x2⟩ : Ext W W1 ∧ W1.cell? ⟨W.heap.size, 0, none⟩ = some (.string r.head.pred) ∧ W1.cell? ⟨W.heap.size, 1, none⟩ = some (.slice ah nh ch) ∧ W1.cell? ⟨W.heap.size, 2, none⟩ = some (.slice ab bn cb) := by rw [hW]; exact box_rule _ _ _ _
  have H1 := Lib.hid (H.out.up E0)
  have HE := Lib.hid E0
  obtain ⟨rb, hrb⟩ : ∃ rb, W.heap.size = rb := ⟨_, rfl⟩
  rw [hrb] at x0 x1 x2 ⊢
  have y0 := keep E0 y0
  have e1 := H1.out.ext
  have CI := Lib.hid (c_IxRule r ah nh ch ab bn cb rb (rs.take n) (some ⟨b, off, none⟩) n rc W1 (rules_take (HRS.out.keep e1) (by omega)) (HR.out.keep e1) (HT.out.ext e1) x0 x1 x2)
  have LK : Hid (lookA rs n r = tellO ((rs.take n).findIdx? (alikeB r))) := (rfl : _ = _)
  clear hW E0 hrb e1
  cases hf : (rs.take n).findIdx? (alikeB r) with
  | none =>
    rw [hf] at CI LK
    have CI : Hid (Calls Tryz.prog 47 #[.slice (some ⟨b, off, none⟩) n rc, .func (.func 48) #[] #[.pointer (some ⟨rb, 0, none⟩)]] W1 fun e w' => e = .returned (.int .i64 (-1)) ∧ Ext W1 w') := CI
    clear hf
    go_wp2_with (go_at_call 47; (with_reducible refine CI.out.mono ?_); rintro e w2 ⟨rfl, hE⟩)
    go_end0
    rw [LK.out]
    exact LookPost.mk HE.out (by simpa [tellO] using (FS.start H1.out.fj).up hE)
  | some i =>
    rw [hf] at CI LK
    have CI : Hid (Calls Tryz.prog 47 #[.slice (some ⟨b, off, none⟩) n rc, .func (.func 48) #[] #[.pointer (some ⟨rb, 0, none⟩)]] W1 fun e w' => e = .returned (.int .i64 (i : Int)) ∧ Ext W1 w') := CI
    have hi : (0 : Int) ≤ (i : Int) := Int.natCast_nonneg i
    clear hf
    go_wp2_with (first | (go_at_call 47; (with_reducible refine CI.out.mono ?_); rintro e w2 ⟨rfl, hE⟩; have S2 := Lib.hid ((FS.start H1.out.fj).up hE); clear hE) | (go_at_call 18; (with_reducible refine (H1.out.tell (G := []) (by rw [List.append_nil]; exact S2.out) (by simp) i ⟨#[]⟩).mono ?_); rintro e w3 ⟨rfl, S3⟩) | fail)
    go_end0
    rw [LK.out]
    exact LookPost.mk HE.out S3
end Go.Proofs.YtlalgaioiapjmaaGreatDoor
namespace Go.Proofs.YtlalgaioiapjmaaGreatDoor
open Go.ChangeShapes Go.WideShapes Go.ChangeAt Go.RowKit
open K (Rule Term Atom TermsAt LitsAt RuleV Finding)
def firstW {α : Type} (g : Nat → α → Bool) : Nat → List α → Option Nat
  | _, [] => none
  | i, x :: l => if g i x = true then some i else firstW g (i + 1) l
theorem firstW_at {α : Type} {g : Nat → α → Bool} : ∀ {l : List α} {i k : Nat} {x : α}, l[k]? = some x → g (i + k) x = true → (∀ j y, j < k → l[j]? = some y → g (i + j) y = false) → firstW g i l = some (i + k)
  | [], _, k, _, h, _, _ => by simp at h
  | a :: l, i, 0, x, h, hg, _ => by
    simp at h
    subst h
    unfold firstW
    rw [if_pos (by simpa using hg)]
    rfl
  | a :: l, i, k + 1, x, h, hg, hp => by
    have h0 := hp 0 a (by omega) (by simp)
    unfold firstW
    rw [if_neg (by simp at h0; simp [h0]), firstW_at (l := l) (i := i + 1) (k := k) (x := x) (by simpa using h) (by rw [show i + 1 + k = i + (k + 1) by omega]; exact hg) (fun j y hj hy => by
      have := hp (j + 1) y (by omega) (by simpa using hy)
      rw [show i + 1 + j = i + (j + 1) by omega]
      exact this)]
    congr 1
    omega
theorem firstW_no {α : Type} {g : Nat → α → Bool} : ∀ {l : List α} {i : Nat}, (∀ j y, l[j]? = some y → g (i + j) y = false) → firstW g i l = none
  | [], _, _ => rfl
  | a :: l, i, hp => by
    have h0 := hp 0 a (by simp)
    unfold firstW
    rw [if_neg (by simp at h0; simp [h0])]
    exact firstW_no (fun j y hy => by
      have := hp (j + 1) y (by simpa using hy)
      rw [show i + 1 + j = i + (j + 1) by omega]
      exact this)
def wiB (n : Nat) (r : Rule) (i : Nat) (s : Rule) : Bool := ((i : Int) != (n : Int)) && (K.plain s && (!alikeB r s && (K.withinL r s && (decide ((i : Int) < (n : Int)) || !K.withinL s r))))
def lookW (rs : List Rule) (n : Nat) (r : Rule) : List Tell := if K.plain r = true then tellO (firstW (wiB n r) 0 rs) else []
set_option maxRecDepth 100000 in
set_option maxHeartbeats 4000000 in
theorem c_lookW {w0 W : World} {ob base lb nb : Nat} {kd : Int} {n : Nat} {F : List Finding} {C : Nat → Prop} (h : LookIn w0 ob base lb nb kd n F C W) (r : Rule) (ah : Option Addr) (nh ch : Nat) (ab : Option Addr) (bn cb : Nat) (hr : RuleV w0 r ah nh ch ab bn cb) (hT : TabOk w0) (rs : List Rule) (ra : Option Addr) (rn rc pb : Nat) (hrs : RulesAt w0 ra rn rs) (y0 : W.cell? ⟨pb, 0, none⟩ = some (.slice ra rn rc)) :
    Calls Tryz.prog 50 #[.int .i64 (n : Nat), .agg #[.string r.head.pred, .slice ah nh ch, .slice ab bn cb], .func (.func 18) #[] #[.pointer (some ⟨ob, 0, none⟩), .pointer (some ⟨lb, 0, none⟩), .pointer (some ⟨nb, 0, none⟩)], .pointer (some ⟨pb, 0, none⟩)] W (LookPost ob base C W F ((lookW rs n r).map (mkF kd n))) := by
  have H := Lib.hid h
  have HR := Lib.hid hr
  have HRS := Lib.hid hrs
  have HT := Lib.hid hT
  have HL := Lib.hid hrs.2.1
  have hrn := hrs.1
  obtain ⟨q0, hq0⟩ : ∃ q, K.plain r = q := ⟨_, rfl⟩
  have LK : Hid (lookW rs n r = if q0 = true then tellO (firstW (wiB n r) 0 rs) else []) := by
    show _ = _
    rw [← hq0]
    rfl
  clear h hr hrs hT
  go_enter Tryz.func50, Tryz.ntmps50
  go_upto_region 1 with (fail)
  refine wp_gen (fun W1 hW => ?_)
  obtain ⟨E0, x0, x1, x2⟩ : Ext W W1 ∧ W1.cell? ⟨W.heap.size, 0, none⟩ = some (.string r.head.pred) ∧ W1.cell? ⟨W.heap.size, 1, none⟩ = some (.slice ah nh ch) ∧ W1.cell? ⟨W.heap.size, 2, none⟩ = some (.slice ab bn cb) := by rw [hW]; exact box_rule _ _ _ _
  have H1 := Lib.hid (H.out.up E0)
  have HE := Lib.hid E0
  obtain ⟨rb, hrb⟩ : ∃ rb, W.heap.size = rb := ⟨_, rfl⟩
  rw [hrb] at x0 x1 x2 ⊢
  have y0 := keep E0 y0
  have CP0 : Hid (Calls Tryz.prog 43 #[.agg #[.string r.head.pred, .slice ah nh ch, .slice ab bn cb]] W1 fun e w' => e = .returned (.bool q0) ∧ Ext W1 w') := by
    show Calls _ _ _ _ _
    rw [← hq0]
    exact K.c_Plain r ah nh ch ab bn cb W1 (HR.out.keep H1.out.ext)
  have S1 := Lib.hid (FS.start H1.out.fj)
  clear hW E0 hrb hq0
  cases q0 with
  | false =>
    go_wp2_with (go_at_call 43; (with_reducible refine CP0.out.mono ?_); rintro e w2 ⟨rfl, hE⟩)
    refine bodyPost_ret (results_none rfl _ _ _) rfl ?_
    rw [LK.out]
    exact LookPost.mk HE.out (by simpa using S1.out.up hE)
  | true =>
    go_upto_region 2 with (go_at_call 43; (with_reducible refine CP0.out.mono ?_); rintro e w2 ⟨rfl, hE⟩; have x0 := keep hE x0; have x1 := keep hE x1; have x2 := keep hE x2; have y0 := keep hE y0; have HE2 := Lib.hid hE; clear hE)
    go_wp2
    go_loopw [15] (fun v wr => ∃ k : Nat, k ≤ rn ∧ v = .int .i64 (k : Int) ∧ Ext w2 wr ∧ ∀ j y, j < k → rs[j]? = some y → wiB n r j y = false) (fun v _ => rn - (intOf v).toNat)
    case atStart => exact ⟨0, Nat.zero_le _, rfl, Below.refl _ _, fun j y hj => by omega⟩
    case round =>
      obtain ⟨k, hk, rfl, hE, hno⟩ := hrel
      have HNO := Lib.hid hno
      have HEW := Lib.hid (ext_trans HE2.out hE)
      clear hno
      by_cases hlt : ¬ k < rn
      · have hki : ¬ (k : Int) < (rn : Int) := by omega
        have FIN : Hid (LookPost ob base C W F ((lookW rs n r).map (mkF kd n)) (.returned (.tuple #[])) wr) := by
          rw [LK.out, firstW_no (fun j y hy => by
            have hj := (List.getElem?_eq_some_iff.1 hy).1
            rw [Nat.zero_add]
            exact HNO.out j y (by have := HL.out; omega) hy)]
          exact LookPost.mk HE.out (by simpa [tellO] using S1.out.up HEW.out)
        clear hE
        go_wp2
        go_end0
        exact FIN.out
      · have hlt : k < rn := by omega
        have hki : (k : Int) < (rn : Int) := by omega
        have E1r := HEW.out
        have E0r := ext_trans H1.out.ext E1r
        obtain ⟨s, b, off, hrk, rfl, ah', nh', ch', ab', nb', cb', z0, z1, z2, hs⟩ := (HRS.out.keep E0r).2.at hlt
        have x0 := keep hE x0
        have x1 := keep hE x1
        have x2 := keep hE x2
        obtain ⟨b0, hb0⟩ : ∃ q, ((k : Int) != (n : Int)) = q := ⟨_, rfl⟩
        obtain ⟨q1, hq1⟩ : ∃ q, K.plain s = q := ⟨_, rfl⟩
        obtain ⟨q2, hq2⟩ : ∃ q, alikeB r s = q := ⟨_, rfl⟩
        obtain ⟨q3, hq3⟩ : ∃ q, K.withinL r s = q := ⟨_, rfl⟩
        obtain ⟨b4, hb4⟩ : ∃ q, decide ((k : Int) < (n : Int)) = q := ⟨_, rfl⟩
        obtain ⟨q5, hq5⟩ : ∃ q, K.withinL s r = q := ⟨_, rfl⟩
        have WB : Hid (wiB n r k s = (b0 && (q1 && (!q2 && (q3 && (b4 || !q5)))))) := by
          show _ = _
          unfold wiB
          rw [hb0, hq1, hq2, hq3, hb4, hq5]
        have HRK := Lib.hid hrk
        have HLT := Lib.hid hlt
        have CP1 : Hid (∀ w5, Ext wr w5 → Calls Tryz.prog 43 #[.agg #[.string s.head.pred, .slice ah' nh' ch', .slice ab' nb' cb']] w5 fun e w' => e = .returned (.bool q1) ∧ Ext w5 w') := fun w5 e => by
          rw [← hq1]
          exact K.c_Plain s ah' nh' ch' ab' nb' cb' w5 (hs.keep e)
        have CAL : Hid (∀ w5, Ext wr w5 → Calls Tryz.prog 49 #[.agg #[.string r.head.pred, .slice ah nh ch, .slice ab bn cb], .agg #[.string s.head.pred, .slice ah' nh' ch', .slice ab' nb' cb']] w5 fun e w' => e = .returned (.bool q2) ∧ Ext w5 w') := fun w5 e => by
          rw [← hq2]
          exact c_Alike r s ah nh ch ab bn cb ah' nh' ch' ab' nb' cb' w5 (HR.out.keep (ext_trans E0r e)) (hs.keep e) (HT.out.ext (ext_trans E0r e))
        have CW1 : Hid (∀ w5, Ext wr w5 → Calls Tryz.prog 44 #[.agg #[.string r.head.pred, .slice ah nh ch, .slice ab bn cb], .agg #[.string s.head.pred, .slice ah' nh' ch', .slice ab' nb' cb']] w5 fun e w' => e = .returned (.bool q3) ∧ Ext w5 w') := fun w5 e => by
          rw [← hq3]
          exact c_withinL r s ah nh ch ab bn cb ah' nh' ch' ab' nb' cb' w5 (HR.out.keep (ext_trans E0r e)) (hs.keep e)
        have CW2 : Hid (∀ w5, Ext wr w5 → Calls Tryz.prog 44 #[.agg #[.string s.head.pred, .slice ah' nh' ch', .slice ab' nb' cb'], .agg #[.string r.head.pred, .slice ah nh ch, .slice ab bn cb]] w5 fun e w' => e = .returned (.bool q5) ∧ Ext w5 w') := fun w5 e => by
          rw [← hq5]
          exact c_withinL s r ah' nh' ch' ab' nb' cb' ah nh ch ab bn cb w5 (hs.keep e) (HR.out.keep (ext_trans E0r e))
        have FIN0 : Hid ((b0 && (q1 && (!q2 && (q3 && (b4 || !q5))))) = false → ∀ w6, Ext wr w6 → Ext w2 w6 ∧ ∀ j y, j < k + 1 → rs[j]? = some y → wiB n r j y = false) := fun hf w6 e6 => by
          refine ⟨ext_trans hE e6, fun j y hj hy => ?_⟩
          rcases Nat.lt_or_ge j k with h | h
          · exact HNO.out j y h hy
          · have : j = k := by omega
            subst this
            rw [HRK.out] at hy
            cases hy
            rw [WB.out]
            exact hf
        have FIN1 : Hid ((b0 && (q1 && (!q2 && (q3 && (b4 || !q5))))) = true → ∀ w6, FS ob base C W1 (F ++ ([] ++ [⟨kd, n, k, ⟨#[]⟩⟩])) w6 → LookPost ob base C W F ((lookW rs n r).map (mkF kd n)) (.returned (.tuple #[])) w6) := fun hf w6 h6 => by
          rw [LK.out, firstW_at (k := k) HRK.out (by rw [Nat.zero_add, WB.out]; exact hf) (fun j y hj hy => by rw [Nat.zero_add]; exact HNO.out j y hj hy)]
          refine LookPost.mk HE.out ?_
          rw [Nat.zero_add]
          simpa [tellO, mkF] using h6
        have TELL : Hid (∀ w6, Ext wr w6 → Calls Tryz.prog 18 #[.int .i64 (k : Nat), .string ⟨#[]⟩, .pointer (some ⟨ob, 0, none⟩), .pointer (some ⟨lb, 0, none⟩), .pointer (some ⟨nb, 0, none⟩)] w6 fun e w' => e = .returned (.tuple #[]) ∧ FS ob base C W1 (F ++ ([] ++ [⟨kd, n, k, ⟨#[]⟩⟩])) w') := fun w6 e6 => H1.out.tell (G := []) (by rw [List.append_nil]; exact S1.out.up (ext_trans E1r e6)) (by simp) k ⟨#[]⟩
        clear hE hrk hs E1r E0r hq1 hq2 hq3 hq5 HNO
        go_upto_region 5 with (fail)
        refine wp_gen (fun W4 hW4 => ?_)
        obtain ⟨E4, v0, v1, v2⟩ : Ext wr W4 ∧ W4.cell? ⟨wr.heap.size, 0, none⟩ = some (.string s.head.pred) ∧ W4.cell? ⟨wr.heap.size, 1, none⟩ = some (.slice ah' nh' ch') ∧ W4.cell? ⟨wr.heap.size, 2, none⟩ = some (.slice ab' nb' cb') := by rw [hW4]; exact box_rule _ _ _ _
        have x0 := keep E4 x0
        have x1 := keep E4 x1
        have x2 := keep E4 x2
        obtain ⟨sb, hsb⟩ : ∃ sb, wr.heap.size = sb := ⟨_, rfl⟩
        rw [hsb] at v0 v1 v2 ⊢
        clear hW4 hsb z0 z1 z2
        cases b0 with
        | false =>
          go_wp2
          go_roundw
          case rel => exact ⟨k + 1, HLT.out, by go_num, (FIN0.out (by trivial) _ E4).1, (FIN0.out (by trivial) _ E4).2⟩
          case measure => have := HLT.out; simp [intOf]; omega
        | true =>
          cases q1 with
          | false =>
            go_wp2_with (first | (go_at_call 43; (with_reducible refine (CP1.out _ E4).mono ?_); rintro e w5 ⟨rfl, E5⟩; have x0 := keep E5 x0; have x1 := keep E5 x1; have x2 := keep E5 x2; have v0 := keep E5 v0; have v1 := keep E5 v1; have v2 := keep E5 v2; have F5 := ext_trans E4 E5) | fail)
            go_roundw
            case rel => exact ⟨k + 1, HLT.out, by go_num, (FIN0.out (by trivial) _ F5).1, (FIN0.out (by trivial) _ F5).2⟩
            case measure => have := HLT.out; simp [intOf]; omega
          | true =>
            cases q2 with
            | true =>
              go_wp2_with (first | (go_at_call 43; (with_reducible refine (CP1.out _ E4).mono ?_); rintro e w5 ⟨rfl, E5⟩; have x0 := keep E5 x0; have x1 := keep E5 x1; have x2 := keep E5 x2; have v0 := keep E5 v0; have v1 := keep E5 v1; have v2 := keep E5 v2; have F5 := ext_trans E4 E5) | (go_at_call 49; (with_reducible refine (CAL.out _ F5).mono ?_); rintro e w6 ⟨rfl, E6⟩; have x0 := keep E6 x0; have x1 := keep E6 x1; have x2 := keep E6 x2; have v0 := keep E6 v0; have v1 := keep E6 v1; have v2 := keep E6 v2; have F6 := ext_trans F5 E6) | fail)
              go_roundw
              case rel => exact ⟨k + 1, HLT.out, by go_num, (FIN0.out (by trivial) _ F6).1, (FIN0.out (by trivial) _ F6).2⟩
              case measure => have := HLT.out; simp [intOf]; omega
            | false =>
              cases q3 with
              | false =>
                go_wp2_with (first | (go_at_call 43; (with_reducible refine (CP1.out _ E4).mono ?_); rintro e w5 ⟨rfl, E5⟩; have x0 := keep E5 x0; have x1 := keep E5 x1; have x2 := keep E5 x2; have v0 := keep E5 v0; have v1 := keep E5 v1; have v2 := keep E5 v2; have F5 := ext_trans E4 E5) | (go_at_call 49; (with_reducible refine (CAL.out _ F5).mono ?_); rintro e w6 ⟨rfl, E6⟩; have x0 := keep E6 x0; have x1 := keep E6 x1; have x2 := keep E6 x2; have v0 := keep E6 v0; have v1 := keep E6 v1; have v2 := keep E6 v2; have F6 := ext_trans F5 E6) | (go_at_call 44; (with_reducible refine (CW1.out _ F6).mono ?_); rintro e w7 ⟨rfl, E7⟩; have x0 := keep E7 x0; have x1 := keep E7 x1; have x2 := keep E7 x2; have v0 := keep E7 v0; have v1 := keep E7 v1; have v2 := keep E7 v2; have F7 := ext_trans F6 E7) | fail)
                go_roundw
                case rel => exact ⟨k + 1, HLT.out, by go_num, (FIN0.out (by trivial) _ F7).1, (FIN0.out (by trivial) _ F7).2⟩
                case measure => have := HLT.out; simp [intOf]; omega
              | true =>
                cases b4 with
                | true =>
                  have hb5 : (k : Int) < (n : Int) := of_decide_eq_true hb4
                  go_wp2_with (first | (go_at_call 43; (with_reducible refine (CP1.out _ E4).mono ?_); rintro e w5 ⟨rfl, E5⟩; have x0 := keep E5 x0; have x1 := keep E5 x1; have x2 := keep E5 x2; have v0 := keep E5 v0; have v1 := keep E5 v1; have v2 := keep E5 v2; have F5 := ext_trans E4 E5) | (go_at_call 49; (with_reducible refine (CAL.out _ F5).mono ?_); rintro e w6 ⟨rfl, E6⟩; have x0 := keep E6 x0; have x1 := keep E6 x1; have x2 := keep E6 x2; have v0 := keep E6 v0; have v1 := keep E6 v1; have v2 := keep E6 v2; have F6 := ext_trans F5 E6) | (go_at_call 44; (with_reducible refine (CW1.out _ F6).mono ?_); rintro e w7 ⟨rfl, E7⟩; have x0 := keep E7 x0; have x1 := keep E7 x1; have x2 := keep E7 x2; have v0 := keep E7 v0; have v1 := keep E7 v1; have v2 := keep E7 v2; have F7 := ext_trans F6 E7) | (go_at_call 18; (with_reducible refine (TELL.out _ F7).mono ?_); rintro e w9 ⟨rfl, S9⟩; have FF := FIN1.out (by trivial) _ S9) | fail)
                  try rw [Exit.noGoto_ret]
                  refine bodyPost_ret (results_none rfl _ _ _) rfl ?_
                  exact FF
                | false =>
                  have hb5 : ¬ (k : Int) < (n : Int) := of_decide_eq_false hb4
                  cases q5 with
                  | true =>
                    go_wp2_with (first | (go_at_call 43; (with_reducible refine (CP1.out _ E4).mono ?_); rintro e w5 ⟨rfl, E5⟩; have x0 := keep E5 x0; have x1 := keep E5 x1; have x2 := keep E5 x2; have v0 := keep E5 v0; have v1 := keep E5 v1; have v2 := keep E5 v2; have F5 := ext_trans E4 E5) | (go_at_call 49; (with_reducible refine (CAL.out _ F5).mono ?_); rintro e w6 ⟨rfl, E6⟩; have x0 := keep E6 x0; have x1 := keep E6 x1; have x2 := keep E6 x2; have v0 := keep E6 v0; have v1 := keep E6 v1; have v2 := keep E6 v2; have F6 := ext_trans F5 E6) | (go_at_call 44; (with_reducible refine (CW1.out _ F6).mono ?_); rintro e w7 ⟨rfl, E7⟩; have x0 := keep E7 x0; have x1 := keep E7 x1; have x2 := keep E7 x2; have v0 := keep E7 v0; have v1 := keep E7 v1; have v2 := keep E7 v2; have F7 := ext_trans F6 E7) | (go_at_call 44; (with_reducible refine (CW2.out _ F7).mono ?_); rintro e w8 ⟨rfl, E8⟩; have F8 := ext_trans F7 E8) | fail)
                    go_roundw
                    case rel => exact ⟨k + 1, HLT.out, by go_num, (FIN0.out (by trivial) _ F8).1, (FIN0.out (by trivial) _ F8).2⟩
                    case measure => have := HLT.out; simp [intOf]; omega
                  | false =>
                    go_wp2_with (first | (go_at_call 43; (with_reducible refine (CP1.out _ E4).mono ?_); rintro e w5 ⟨rfl, E5⟩; have x0 := keep E5 x0; have x1 := keep E5 x1; have x2 := keep E5 x2; have v0 := keep E5 v0; have v1 := keep E5 v1; have v2 := keep E5 v2; have F5 := ext_trans E4 E5) | (go_at_call 49; (with_reducible refine (CAL.out _ F5).mono ?_); rintro e w6 ⟨rfl, E6⟩; have x0 := keep E6 x0; have x1 := keep E6 x1; have x2 := keep E6 x2; have v0 := keep E6 v0; have v1 := keep E6 v1; have v2 := keep E6 v2; have F6 := ext_trans F5 E6) | (go_at_call 44; (with_reducible refine (CW1.out _ F6).mono ?_); rintro e w7 ⟨rfl, E7⟩; have x0 := keep E7 x0; have x1 := keep E7 x1; have x2 := keep E7 x2; have v0 := keep E7 v0; have v1 := keep E7 v1; have v2 := keep E7 v2; have F7 := ext_trans F6 E7) | (go_at_call 44; (with_reducible refine (CW2.out _ F7).mono ?_); rintro e w8 ⟨rfl, E8⟩; have F8 := ext_trans F7 E8) | (go_at_call 18; (with_reducible refine (TELL.out _ F8).mono ?_); rintro e w9 ⟨rfl, S9⟩; have FF := FIN1.out (by trivial) _ S9) | fail)
                    try rw [Exit.noGoto_ret]
                    refine bodyPost_ret (results_none rfl _ _ _) rfl ?_
                    exact FF
end Go.Proofs.YtlalgaioiapjmaaGreatDoor
