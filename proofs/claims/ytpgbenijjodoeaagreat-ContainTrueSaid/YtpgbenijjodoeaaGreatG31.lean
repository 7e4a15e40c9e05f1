/- The walk of the join's Check. -/
import Derived.Test.YtpgbenijjodoeaaGreatG30
namespace Go.Proofs.YtpgbenijjodoeaaGreat
open Go.ChangeShapes Go.WideShapes Go.ChangeAt Go.RowKit
open K (Term Atom Rule TermsAt LitsAt RuleV termAt litAt)
/-- Is a term safe? -/
def safeT (xs : List ByteArray) (t : Term) (blank : Bool) : Bool := if t.kind = 2 then blank else if t.kind = 3 ∨ t.kind = 4 then true else decide (t.text ∈ xs)
theorem c_safe (xs : List ByteArray) (t : Term) (blank : Bool) (bx : Nat) (a : Option Addr) (n c : Nat) (w : World) (hb : w.cell? ⟨bx, 0, none⟩ = some (.slice a n c)) (hs : StrsAt w a n xs) :
    Calls Tryz.prog 48 #[termV t, .bool blank, .pointer (some ⟨bx, 0, none⟩)] w fun e w' => e = .returned (.bool (safeT xs t blank)) ∧ Ext w w' := by
  have HS := Lib.hid hs
  obtain ⟨b2, e2⟩ : ∃ b, (t.kind == 2) = b := ⟨_, rfl⟩
  obtain ⟨b3, e3⟩ : ∃ b, (t.kind == 3) = b := ⟨_, rfl⟩
  obtain ⟨b4, e4⟩ : ∃ b, (t.kind == 4) = b := ⟨_, rfl⟩
  have K2 : Hid ((t.kind = 2) ↔ b2 = true) := by show _ ↔ _; rw [← e2]; simp
  have K3 : Hid ((t.kind = 3) ↔ b3 = true) := by show _ ↔ _; rw [← e3]; simp
  have K4 : Hid ((t.kind = 4) ↔ b4 = true) := by show _ ↔ _; rw [← e4]; simp
  have E1 : Hid (∀ o, Ext w (w.alloc o)) := fun o => ext_alloc (Below.refl _ _) o
  have hb2 : ∀ o, (w.alloc o).cell? ⟨bx, 0, none⟩ = some (.slice a n c) := fun o => keep (E1.out o) hb
  have CN : Hid (∀ o, Calls Tryz.prog 49 #[.slice a n c, .string t.text] (w.alloc o) fun e w' => e = .returned (.bool (decide (0 ≤ idxB xs t.text))) ∧ w' = w.alloc o) := fun o => c_containsS xs t.text a _ c _ (HS.out.keep (E1.out o))
  have fin : Hid (safeT xs t blank = if b2 = true then blank else if b3 = true ∨ b4 = true then true else decide (0 ≤ idxB xs t.text)) := by
    show _ = _
    have q : decide (0 ≤ idxB xs t.text) = decide (t.text ∈ xs) := by simp only [idxB_nonneg]
    rw [q]
    unfold safeT
    simp only [K2.out, K3.out, K4.out]
  clear hs hb
  cases b2
  · cases b3
    · cases b4
      · go_enter Tryz.func48, Tryz.ntmps48
        go_wp2_with (go_at_call 49; (with_reducible refine (CN.out _).mono ?_); rintro e w2 ⟨rfl, hw2⟩; obtain rfl := hw2.symm)
        go_ret
        exact ⟨ret_bool (by rw [fin.out]; simp), E1.out _⟩
      · go_enter Tryz.func48, Tryz.ntmps48
        go_wp2
        go_ret
        exact ⟨ret_bool (by rw [fin.out]; simp), E1.out _⟩
    · go_enter Tryz.func48, Tryz.ntmps48
      go_wp2
      go_ret
      exact ⟨ret_bool (by rw [fin.out]; simp), E1.out _⟩
  · go_enter Tryz.func48, Tryz.ntmps48
    go_wp2
    go_ret
    exact ⟨ret_bool (by rw [fin.out]; simp), E1.out _⟩
/-- Is a literal of a body unsafe? -/
def badCmp (xs : List ByteArray) (l : K.Lit) : Bool := decide (l.kind = 3) && (!safeT xs l.left false || !safeT xs l.right false)
def badNeg (xs : List ByteArray) (l : K.Lit) (t : Term) : Bool := decide (l.kind = 2) && !safeT xs t true
def badLit (xs : List ByteArray) (l : K.Lit) : Bool := badCmp xs l || l.atom.terms.any (badNeg xs l)
def badHead (xs : List ByteArray) (t : Term) : Bool := !safeT xs t false
/-- What Check answers. -/
def checkR (r : Rule) : Int := if headOk r.head.terms = false then 2 else if r.body.any (fun l => !litOk l) = true then 2 else if r.head.terms.any (badHead (varsR r)) = true then 111 else if r.body.any (badLit (varsR r)) = true then 111 else 0
def CheckPost (r : Rule) (w : World) (e : Ending) (w' : World) : Prop := e = .returned (.int .i64 (checkR r)) ∧ Ext w w'
set_option maxRecDepth 100000 in
set_option maxHeartbeats 4000000 in
theorem c_check (r : Rule) (ah : Option Addr) (nh ch : Nat) (ab : Option Addr) (nb cb : Nat) (w : World) (hr : RuleV w r ah nh ch ab nb cb) (hv : (varsR r).length ≤ 1000000) :
    Calls Tryz.prog 24 #[.agg #[.string r.head.pred, .slice ah nh ch, .slice ab nb cb]] w (CheckPost r w) := by
  have HR := Lib.hid hr
  have HLB := Lib.hid hr.body.2.1
  have HLH := Lib.hid hr.terms.2.1
  have HV := Lib.hid hv
  have hn := hr.body.1
  have hn2 := hr.terms.1
  clear hr hv
  have E0 : Hid (∀ o, Ext w (w.alloc o)) := fun o => ext_alloc (Below.refl _ _) o
  obtain ⟨bh, hbh⟩ : ∃ b, headOk r.head.terms = b := ⟨_, rfl⟩
  have HBH := Lib.hid hbh
  have HD : Hid (∀ o, Calls Tryz.prog 45 #[.slice ah nh ch] (w.alloc o) fun e w' => e = .returned (.bool (headOk r.head.terms)) ∧ Ext (w.alloc o) w') := fun o => c_head r.head.terms ah nh ch _ (HR.out.terms.keep (E0.out o))
  rw [hbh] at HD
  clear hbh
  cases bh with
  | false =>
    go_enter Tryz.func24, Tryz.ntmps24
    go_wp2_with (go_at_call 45; (with_reducible refine (HD.out _).mono ?_); rintro e w2 ⟨rfl, hb2⟩)
    go_ret
    exact ⟨ret_int (b := checkR r) (by unfold checkR; rw [if_pos HBH.out]), ext_trans (E0.out _) hb2⟩
  | true =>
    go_enter Tryz.func24, Tryz.ntmps24
    go_wp2_with (go_at_call 45; (with_reducible refine (HD.out _).mono ?_); rintro e w2 ⟨rfl, hb2⟩; have c0 := keep hb2 (show (w.alloc (.cells #[.string r.head.pred, .slice ah nh ch, .slice ab nb cb] 27)).cell? ⟨w.heap.size, 0, none⟩ = some (.string r.head.pred) by go_simp); have c1 := keep hb2 (show (w.alloc (.cells #[.string r.head.pred, .slice ah nh ch, .slice ab nb cb] 27)).cell? ⟨w.heap.size, 1, none⟩ = some (.slice ah nh ch) by go_simp); have c2 := keep hb2 (show (w.alloc (.cells #[.string r.head.pred, .slice ah nh ch, .slice ab nb cb] 27)).cell? ⟨w.heap.size, 2, none⟩ = some (.slice ab nb cb) by go_simp))
    have EX2 : Hid (Ext w w2) := ext_trans (E0.out _) hb2
    obtain ⟨p1, hp1⟩ : ∃ p1, p1 = w.heap.size := ⟨_, rfl⟩
    rw [← hp1] at c0 c1 c2 ⊢
    clear hb2 hp1
    have C0 := Lib.hid c0
    have C1 := Lib.hid c1
    have C2 := Lib.hid c2
    go_loopw [21] (fun u wj => ∃ k : Nat, k ≤ nb ∧ u = .int .i64 k ∧ (r.body.take k).any (fun l => !litOk l) = false ∧ Ext w2 wj) (fun u _ => nb - (intOf u).toNat)
    case atStart => exact ⟨0, by omega, rfl, by simp, Below.refl _ _⟩
    case round =>
      obtain ⟨k, hk, rfl, hq, hE⟩ := hrel
      have HQ := Lib.hid hq
      have HE := Lib.hid hE
      have HEW : Hid (Ext w wr) := ext_trans EX2.out hE
      clear hq hE
      by_cases hlt : k < nb
      · have hki : (k : Int) < (nb : Int) := by omega
        obtain ⟨l, bl, off, hx, rfl, al, nl, cl, h0, h1, h2, h3, h4, h5, h6, h7, h8, h9, h10, h11, h12⟩ := (HR.out.body.keep HEW.out).2.at hlt
        have HX := Lib.hid hx
        have HTK : Hid (r.body.take (k + 1) = r.body.take k ++ [l]) := take_at hx
        have LT : Hid (∀ o, Calls Tryz.prog 46 #[litV l al nl cl] (wr.alloc o) fun e w' => e = .returned (.bool (litOk l)) ∧ Ext (wr.alloc o) w') := fun o => c_literal l al nl cl _ (h8.keep (ext_alloc (Below.refl _ _) o)) h11 h12
        have HEA : Hid (∀ o, Ext w2 (wr.alloc o)) := fun o => ext_trans HE.out (ext_alloc (Below.refl _ _) o)
        clear h8 h9 h10 h11 h12 hx
        obtain ⟨bq, hbq⟩ : ∃ b, litOk l = b := ⟨_, rfl⟩
        have HBQ := Lib.hid hbq
        rw [hbq] at LT
        clear hbq
        cases bq with
        | false =>
          go_wp2_with (go_at_call 46; (with_reducible refine (LT.out _).mono ?_); rintro e w3 ⟨rfl, hb3⟩)
          go_ret
          refine ⟨ret_int (b := checkR r) ?_, ext_trans EX2.out (ext_trans (HEA.out _) hb3)⟩
          have : r.body.any (fun l => !litOk l) = true := List.any_eq_true.2 ⟨l, List.mem_of_getElem? HX.out, by rw [HBQ.out]; rfl⟩
          unfold checkR
          rw [HBH.out, if_neg (by simp), if_pos this]
        | true =>
          go_wp2_with (go_at_call 46; (with_reducible refine (LT.out _).mono ?_); rintro e w3 ⟨rfl, hb3⟩)
          go_roundw
          case rel => exact ⟨k + 1, by omega, by go_num, by rw [HTK.out, List.any_append, HQ.out]; simp [HBQ.out], ext_trans (HEA.out _) hb3⟩
          case measure => simp [intOf]; omega
      · obtain rfl : k = nb := by omega
        have hge : ¬ (k : Int) < (k : Int) := by omega
        have HALL : Hid (r.body.any (fun l => !litOk l) = false) := by
          have := HQ.out
          rwa [List.take_of_length_le (by have := HLB.out; omega)] at this
        have d0 := keep HE.out C0.out
        have d1 := keep HE.out C1.out
        have d2 := keep HE.out C2.out
        have VR := Lib.hid (c_vars r ah nh ch ab k cb wr (HR.out.keep HEW.out) HV.out)
        go_wp2_with (go_at_call 47; (with_reducible refine VR.out.mono ?_); rintro e w3 ⟨av, cv, rfl, sv, nv, ov, hb3⟩; have d1' := keep (ext_alloc hb3 (.cells #[.slice av (varsR r).length cv] 46)) d1)
        obtain ⟨bx, hbx⟩ : ∃ bx, w3.heap.size = bx := ⟨_, rfl⟩
        have CB : Hid ((w3.alloc (.cells #[.slice av (varsR r).length cv] 46)).cell? ⟨bx, 0, none⟩ = some (.slice av (varsR r).length cv)) := by show _ = _; rw [← hbx]; go_simp
        rw [hbx]
        have E4 : Hid (Ext wr (w3.alloc (.cells #[.slice av (varsR r).length cv] 46))) := ext_alloc hb3 _
        have SV := Lib.hid (sv.keep (ext_alloc (Below.refl _ w3) (.cells #[.slice av (varsR r).length cv] 46)))
        generalize w3.alloc (.cells #[.slice av (varsR r).length cv] 46) = W4 at CB E4 SV d1' ⊢
        have EW4 : Hid (Ext w W4) := ext_trans HEW.out E4.out
        have D2 : Hid (W4.cell? ⟨p1, 2, none⟩ = some (.slice ab k cb)) := keep E4.out d2
        clear hbx hb3 ov nv sv d0 d1 d2 VR HD
        have CS : Hid (∀ t bl W, Ext W4 W → Calls Tryz.prog 48 #[termV t, .bool bl, .pointer (some ⟨bx, 0, none⟩)] W fun e w' => e = .returned (.bool (safeT (varsR r) t bl)) ∧ Ext W w') := fun t bl W hW => c_safe (varsR r) t bl bx av _ cv W (keep hW CB.out) (SV.out.keep hW)
        go_loopw [36] (fun u wj => ∃ k : Nat, k ≤ nh ∧ u = .int .i64 k ∧ (r.head.terms.take k).any (badHead (varsR r)) = false ∧ Ext W4 wj) (fun u _ => nh - (intOf u).toNat)
        case atStart => exact ⟨0, by omega, rfl, by simp, Below.refl _ _⟩
        case round =>
          obtain ⟨j, hj, rfl, hq3, hE3⟩ := hrel
          have HQ3 := Lib.hid hq3
          have HE3 := Lib.hid hE3
          have HEW3 : Hid (Ext w wr) := ext_trans EW4.out hE3
          clear hq3 hE3
          by_cases hlj : j < nh
          · have hji : (j : Int) < (nh : Int) := by omega
            obtain ⟨t, bt, ot, hx, rfl, hc1, hc2, hc3⟩ := (HR.out.terms.keep HEW3.out).2.at hlj
            have HXT := Lib.hid hx
            have HTJ : Hid (r.head.terms.take (j + 1) = r.head.terms.take j ++ [t]) := take_at hx
            clear hx
            have HEA : Hid (∀ o, Ext W4 (wr.alloc o)) := fun o => ext_trans HE3.out (ext_alloc (Below.refl _ _) o)
            have ST : Hid (∀ o, Calls Tryz.prog 48 #[termV t, .bool false, .pointer (some ⟨bx, 0, none⟩)] (wr.alloc o) fun e w' => e = .returned (.bool (safeT (varsR r) t false)) ∧ Ext (wr.alloc o) w') := fun o => CS.out t false _ (HEA.out o)
            obtain ⟨bs, hbs⟩ : ∃ b, safeT (varsR r) t false = b := ⟨_, rfl⟩
            have HBS := Lib.hid hbs
            rw [hbs] at ST
            clear hbs
            cases bs with
            | false =>
              go_wp2_with (go_at_call 48; (with_reducible refine (ST.out _).mono ?_); rintro e w5 ⟨rfl, hb5⟩)
              go_ret
              refine ⟨ret_int (b := checkR r) ?_, ext_trans EW4.out (ext_trans (HEA.out _) hb5)⟩
              have : r.head.terms.any (badHead (varsR r)) = true := List.any_eq_true.2 ⟨t, List.mem_of_getElem? HXT.out, by unfold badHead; rw [HBS.out]; rfl⟩
              unfold checkR
              rw [HBH.out, if_neg (by simp), HALL.out, if_neg (by simp), if_pos this]
            | true =>
              go_wp2_with (go_at_call 48; (with_reducible refine (ST.out _).mono ?_); rintro e w5 ⟨rfl, hb5⟩)
              go_roundw
              case rel => exact ⟨j + 1, by omega, by go_num, by rw [HTJ.out, List.any_append, HQ3.out]; simp [badHead, HBS.out], ext_trans (HEA.out _) hb5⟩
              case measure => simp [intOf]; omega
          · obtain rfl : j = nh := by omega
            have hgj : ¬ (j : Int) < (j : Int) := by omega
            have HALL3 : Hid (r.head.terms.any (badHead (varsR r)) = false) := by
              have := HQ3.out
              rwa [List.take_of_length_le (by have := HLH.out; omega)] at this
            have d3 := keep HE3.out D2.out
            go_wp2
            go_loopw [48] (fun u wj => ∃ k' : Nat, k' ≤ k ∧ u = .int .i64 k' ∧ (r.body.take k').any (badLit (varsR r)) = false ∧ Ext W4 wj) (fun u _ => k - (intOf u).toNat)
            case atStart => exact ⟨0, by omega, rfl, by simp, HE3.out⟩
            case round =>
              obtain ⟨m, hm, rfl, hq4, hE4⟩ := hrel
              have HQ4 := Lib.hid hq4
              have HE4 := Lib.hid hE4
              have HEW4 : Hid (Ext w wr) := ext_trans EW4.out hE4
              clear hq4 hE4
              by_cases hlm : m < k
              · have hmi : (m : Int) < (k : Int) := by omega
                obtain ⟨l, bl, ol, hx, rfl, al, nl, cl, h0, h1, h2, h3, h4, h5, h6, h7, h8, h9, h10, h11, h12⟩ := (HR.out.body.keep HEW4.out).2.at hlm
                have HXL := Lib.hid hx
                have HTM : Hid (r.body.take (m + 1) = r.body.take m ++ [l]) := take_at hx
                have HLT := Lib.hid h8.2.1
                have HTS : Hid (TermsAt wr al nl l.atom.terms) := h8
                have hnl := h8.1
                have HEA : Hid (∀ o, Ext wr (wr.alloc o)) := fun o => ext_alloc (Below.refl _ _) o
                have CS4 : Hid (∀ t bl W, Ext wr W → Calls Tryz.prog 48 #[termV t, .bool bl, .pointer (some ⟨bx, 0, none⟩)] W fun e w' => e = .returned (.bool (safeT (varsR r) t bl)) ∧ Ext W w') := fun t bl W hW => CS.out t bl W (ext_trans HE4.out hW)
                clear h8 h9 h10 h11 h12 hx
                obtain ⟨p10, hp10⟩ : ∃ p10, wr.heap.size = p10 := ⟨_, rfl⟩
                obtain ⟨b3, e3⟩ : ∃ b, (l.kind == 3) = b := ⟨_, rfl⟩
                have K3 : Hid ((l.kind = 3) ↔ b3 = true) := by show _ ↔ _; rw [← e3]; simp
                have HBAD : Hid (badLit (varsR r) l = true → (111 : Int) = checkR r) := fun hb => by
                  have : r.body.any (badLit (varsR r)) = true := List.any_eq_true.2 ⟨l, List.mem_of_getElem? HXL.out, hb⟩
                  unfold checkR
                  rw [HBH.out, if_neg (by simp), HALL.out, if_neg (by simp), HALL3.out, if_neg (by simp), if_pos this]
                have PC : Hid (∀ W, Ext (wr.alloc (.cells #[.int .i64 l.kind, .string l.atom.pred, .slice al nl cl, .int .i64 l.op, .int .i64 l.left.kind, .string l.left.text, .int .i64 l.right.kind, .string l.right.text] 56)) W → W.cell? ⟨p10, 0, none⟩ = some (.int .i64 l.kind) ∧ W.cell? ⟨p10, 2, none⟩ = some (.slice al nl cl) ∧ W.cell? ⟨p10, 6, none⟩ = some (.int .i64 l.right.kind) ∧ W.cell? ⟨p10, 7, none⟩ = some (.string l.right.text)) := fun W hW => by
                  rw [← hp10]
                  exact ⟨keep hW (by go_simp), keep hW (by go_simp), keep hW (by go_simp), keep hW (by go_simp)⟩
                cases b3 with
                | false =>
                  have HCMP : Hid (badCmp (varsR r) l = false) := by show _ = _; unfold badCmp; simp [K3.out]
                  go_wp2
                  have K10 := Lib.hid (PC.out _ (Below.refl _ _)).1
                  have hE6 := HEA.out (.cells #[.int .i64 l.kind, .string l.atom.pred, .slice al nl cl, .int .i64 l.op, .int .i64 l.left.kind, .string l.left.text, .int .i64 l.right.kind, .string l.right.text] 56)
                  generalize wr.alloc (.cells #[.int .i64 l.kind, .string l.atom.pred, .slice al nl cl, .int .i64 l.op, .int .i64 l.left.kind, .string l.left.text, .int .i64 l.right.kind, .string l.right.text] 56) = W6 at K10 hE6 ⊢
                  clear hp10 h0 h1 h2 h3 h4 h5 h6 h7 PC
                  have EW6 : Hid (Ext wr W6) := hE6
                  obtain ⟨b2, e2⟩ : ∃ b, (l.kind == 2) = b := ⟨_, rfl⟩
                  have K2 : Hid ((l.kind = 2) ↔ b2 = true) := by show _ ↔ _; rw [← e2]; simp
                  clear hE6
                  go_loopw [73] (fun u wj => ∃ q : Nat, q ≤ nl ∧ u = .int .i64 q ∧ (l.atom.terms.take q).any (badNeg (varsR r) l) = false ∧ Ext W6 wj) (fun u _ => nl - (intOf u).toNat)
                  case atStart => exact ⟨0, by omega, rfl, by simp, Below.refl _ _⟩
                  case round =>
                    obtain ⟨q, hql, rfl, hq5, hE5⟩ := hrel
                    have HQ5 := Lib.hid hq5
                    have HE5 := Lib.hid hE5
                    have HEWR := Lib.hid (ext_trans EW6.out hE5)
                    have k10 := keep hE5 K10.out
                    clear hq5 hE5
                    by_cases hlq : q < nl
                    · have hqi : (q : Int) < (nl : Int) := by omega
                      obtain ⟨t, bt, ot, hx, rfl, hc1, hc2, hc3⟩ := (HTS.out.keep HEWR.out).2.at hlq
                      have HXT := Lib.hid hx
                      have HTQ : Hid (l.atom.terms.take (q + 1) = l.atom.terms.take q ++ [t]) := take_at hx
                      clear hx
                      have k11 : ∀ o, (wr.alloc o).cell? ⟨p10, 0, none⟩ = some (.int .i64 l.kind) := fun o => keep (ext_alloc (Below.refl _ _) o) k10
                      have HEB : Hid (∀ o, Ext W6 (wr.alloc o)) := fun o => ext_trans HE5.out (ext_alloc (Below.refl _ _) o)
                      have ST : Hid (∀ o, Calls Tryz.prog 48 #[termV t, .bool true, .pointer (some ⟨bx, 0, none⟩)] (wr.alloc o) fun e w' => e = .returned (.bool (safeT (varsR r) t true)) ∧ Ext (wr.alloc o) w') := fun o => CS4.out t true _ (ext_trans EW6.out (HEB.out o))
                      cases b2 with
                      | false =>
                        go_wp2
                        go_roundw
                        case rel => exact ⟨q + 1, by omega, by go_num, by rw [HTQ.out, List.any_append, HQ5.out]; simp [badNeg, K2.out], HEB.out _⟩
                        case measure => simp [intOf]; omega
                      | true =>
                        obtain ⟨bs, hbs⟩ : ∃ b, safeT (varsR r) t true = b := ⟨_, rfl⟩
                        have HBS := Lib.hid hbs
                        rw [hbs] at ST
                        clear hbs
                        cases bs with
                        | false =>
                          go_wp2_with (go_at_call 48; (with_reducible refine (ST.out _).mono ?_); rintro e w5 ⟨rfl, hb5⟩)
                          go_ret
                          refine ⟨ret_int (b := checkR r) ?_, ext_trans HEW4.out (ext_trans EW6.out (ext_trans (HEB.out _) hb5))⟩
                          have hb : badLit (varsR r) l = true := by
                            unfold badLit
                            rw [Bool.or_eq_true]
                            exact .inr (List.any_eq_true.2 ⟨t, List.mem_of_getElem? HXT.out, by unfold badNeg; rw [HBS.out]; simp [K2.out]⟩)
                          exact HBAD.out hb
                        | true =>
                          go_wp2_with (go_at_call 48; (with_reducible refine (ST.out _).mono ?_); rintro e w5 ⟨rfl, hb5⟩)
                          go_roundw
                          case rel => exact ⟨q + 1, by omega, by go_num, by rw [HTQ.out, List.any_append, HQ5.out]; simp [badNeg, HBS.out], ext_trans (HEB.out _) hb5⟩
                          case measure => simp [intOf]; omega
                    · obtain rfl : q = nl := by omega
                      have hgq : ¬ (q : Int) < (q : Int) := by omega
                      have HALL5 : Hid (l.atom.terms.any (badNeg (varsR r) l) = false) := by
                        have := HQ5.out
                        rwa [List.take_of_length_le (by have := HLT.out; omega)] at this
                      go_wp2
                      go_roundw
                      case rel => exact ⟨m + 1, by omega, by go_num, by rw [HTM.out, List.any_append, HQ4.out]; simp [badLit, HCMP.out, HALL5.out], ext_trans HE4.out HEWR.out⟩
                      case measure => simp [intOf]; omega
                | true =>
                  have SL : Hid (∀ o, Calls Tryz.prog 48 #[termV l.left, .bool false, .pointer (some ⟨bx, 0, none⟩)] (wr.alloc o) fun e w' => e = .returned (.bool (safeT (varsR r) l.left false)) ∧ Ext (wr.alloc o) w') := fun o => CS4.out l.left false _ (HEA.out o)
                  have SR : Hid (∀ W, Ext wr W → Calls Tryz.prog 48 #[termV l.right, .bool false, .pointer (some ⟨bx, 0, none⟩)] W fun e w' => e = .returned (.bool (safeT (varsR r) l.right false)) ∧ Ext W w') := fun W hW => CS4.out l.right false W hW
                  obtain ⟨sl, hsl⟩ : ∃ b, safeT (varsR r) l.left false = b := ⟨_, rfl⟩
                  obtain ⟨sr, hsr⟩ : ∃ b, safeT (varsR r) l.right false = b := ⟨_, rfl⟩
                  have HSL := Lib.hid hsl
                  have HSR := Lib.hid hsr
                  rw [hsl] at SL
                  rw [hsr] at SR
                  clear hsl hsr
                  cases sl with
                  | false =>
                    go_wp2_with (go_at_call 48; (with_reducible refine (SL.out _).mono ?_); rintro e w5 ⟨rfl, hb5⟩)
                    go_ret
                    exact ⟨ret_int (b := checkR r) (HBAD.out (by unfold badLit badCmp; rw [HSL.out]; simp [K3.out])), ext_trans HEW4.out (ext_trans (HEA.out _) hb5)⟩
                  | true =>
                    cases sr with
                    | false =>
                      go_wp2_with (first
                        | (go_at_call 48; (with_reducible refine (SL.out _).mono ?_); rintro e w5 ⟨rfl, hb5⟩; obtain ⟨z0, z2, z6, z7⟩ := PC.out _ hb5; have EZ : Hid (Ext wr w5) := ext_trans (HEA.out _) hb5; clear hb5)
                        | (go_at_call 48; (with_reducible refine (SR.out _ EZ.out).mono ?_); rintro e w6 ⟨rfl, hb6⟩))
                      go_ret
                      exact ⟨ret_int (b := checkR r) (HBAD.out (by unfold badLit badCmp; rw [HSR.out]; simp [K3.out])), ext_trans HEW4.out (ext_trans EZ.out hb6)⟩
                    | true =>
                      have HCMP : Hid (badCmp (varsR r) l = false) := by show _ = _; unfold badCmp; rw [HSL.out, HSR.out]; simp
                      go_wp2_with (first
                        | (go_at_call 48; (with_reducible refine (SL.out _).mono ?_); rintro e w5 ⟨rfl, hb5⟩; obtain ⟨z0, z2, z6, z7⟩ := PC.out _ hb5; have EZ : Hid (Ext wr w5) := ext_trans (HEA.out _) hb5; clear hb5)
                        | (go_at_call 48; (with_reducible refine (SR.out _ EZ.out).mono ?_); rintro e W6 ⟨rfl, hb6⟩; have y0 := keep hb6 z0; have y2 := keep hb6 z2))
                      have hE6 := ext_trans EZ.out hb6
                      have K10 := Lib.hid y0
                      clear hp10 h0 h1 h2 h3 h4 h5 h6 h7 PC z0 z2 z6 z7 y0 y2 hb6 EZ SL SR
                      have EW6 : Hid (Ext wr W6) := hE6
                      obtain ⟨b2, e2⟩ : ∃ b, (l.kind == 2) = b := ⟨_, rfl⟩
                      have K2 : Hid ((l.kind = 2) ↔ b2 = true) := by show _ ↔ _; rw [← e2]; simp
                      clear hE6
                      go_loopw [73] (fun u wj => ∃ q : Nat, q ≤ nl ∧ u = .int .i64 q ∧ (l.atom.terms.take q).any (badNeg (varsR r) l) = false ∧ Ext W6 wj) (fun u _ => nl - (intOf u).toNat)
                      case atStart => exact ⟨0, by omega, rfl, by simp, Below.refl _ _⟩
                      case round =>
                        obtain ⟨q, hql, rfl, hq5, hE5⟩ := hrel
                        have HQ5 := Lib.hid hq5
                        have HE5 := Lib.hid hE5
                        have HEWR := Lib.hid (ext_trans EW6.out hE5)
                        have k10 := keep hE5 K10.out
                        clear hq5 hE5
                        by_cases hlq : q < nl
                        · have hqi : (q : Int) < (nl : Int) := by omega
                          obtain ⟨t, bt, ot, hx, rfl, hc1, hc2, hc3⟩ := (HTS.out.keep HEWR.out).2.at hlq
                          have HXT := Lib.hid hx
                          have HTQ : Hid (l.atom.terms.take (q + 1) = l.atom.terms.take q ++ [t]) := take_at hx
                          clear hx
                          have k11 : ∀ o, (wr.alloc o).cell? ⟨p10, 0, none⟩ = some (.int .i64 l.kind) := fun o => keep (ext_alloc (Below.refl _ _) o) k10
                          have HEB : Hid (∀ o, Ext W6 (wr.alloc o)) := fun o => ext_trans HE5.out (ext_alloc (Below.refl _ _) o)
                          have ST : Hid (∀ o, Calls Tryz.prog 48 #[termV t, .bool true, .pointer (some ⟨bx, 0, none⟩)] (wr.alloc o) fun e w' => e = .returned (.bool (safeT (varsR r) t true)) ∧ Ext (wr.alloc o) w') := fun o => CS4.out t true _ (ext_trans EW6.out (HEB.out o))
                          cases b2 with
                          | false =>
                            go_wp2
                            go_roundw
                            case rel => exact ⟨q + 1, by omega, by go_num, by rw [HTQ.out, List.any_append, HQ5.out]; simp [badNeg, K2.out], HEB.out _⟩
                            case measure => simp [intOf]; omega
                          | true =>
                            obtain ⟨bs, hbs⟩ : ∃ b, safeT (varsR r) t true = b := ⟨_, rfl⟩
                            have HBS := Lib.hid hbs
                            rw [hbs] at ST
                            clear hbs
                            cases bs with
                            | false =>
                              go_wp2_with (go_at_call 48; (with_reducible refine (ST.out _).mono ?_); rintro e w5 ⟨rfl, hb5⟩)
                              go_ret
                              refine ⟨ret_int (b := checkR r) ?_, ext_trans HEW4.out (ext_trans EW6.out (ext_trans (HEB.out _) hb5))⟩
                              have hb : badLit (varsR r) l = true := by
                                unfold badLit
                                rw [Bool.or_eq_true]
                                exact .inr (List.any_eq_true.2 ⟨t, List.mem_of_getElem? HXT.out, by unfold badNeg; rw [HBS.out]; simp [K2.out]⟩)
                              exact HBAD.out hb
                            | true =>
                              go_wp2_with (go_at_call 48; (with_reducible refine (ST.out _).mono ?_); rintro e w5 ⟨rfl, hb5⟩)
                              go_roundw
                              case rel => exact ⟨q + 1, by omega, by go_num, by rw [HTQ.out, List.any_append, HQ5.out]; simp [badNeg, HBS.out], ext_trans (HEB.out _) hb5⟩
                              case measure => simp [intOf]; omega
                        · obtain rfl : q = nl := by omega
                          have hgq : ¬ (q : Int) < (q : Int) := by omega
                          have HALL5 : Hid (l.atom.terms.any (badNeg (varsR r) l) = false) := by
                            have := HQ5.out
                            rwa [List.take_of_length_le (by have := HLT.out; omega)] at this
                          go_wp2
                          go_roundw
                          case rel => exact ⟨m + 1, by omega, by go_num, by rw [HTM.out, List.any_append, HQ4.out]; simp [badLit, HCMP.out, HALL5.out], ext_trans HE4.out HEWR.out⟩
                          case measure => simp [intOf]; omega
              · obtain rfl : m = k := by omega
                have hgm : ¬ (m : Int) < (m : Int) := by omega
                have HALL4 : Hid (r.body.any (badLit (varsR r)) = false) := by
                  have := HQ4.out
                  rwa [List.take_of_length_le (by have := HLB.out; omega)] at this
                go_wp2
                go_ret
                refine ⟨ret_int (b := checkR r) ?_, HEW4.out⟩
                unfold checkR
                rw [HBH.out, if_neg (by simp), HALL.out, if_neg (by simp), HALL3.out, if_neg (by simp), HALL4.out, if_neg (by simp)]
end Go.Proofs.YtpgbenijjodoeaaGreat
