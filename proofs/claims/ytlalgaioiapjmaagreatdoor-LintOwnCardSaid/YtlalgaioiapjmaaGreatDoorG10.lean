/- The walks of schema.first (with each closure of Safe) and of schema.Safe. -/
import Derived.Test.YtlalgaioiapjmaaGreatDoorG9
namespace Go.Proofs.YtlalgaioiapjmaaGreatDoor
open Go.ChangeShapes Go.WideShapes Go.ChangeAt Go.RowKit
open K (Term Rule RuleV TermsAt LitsAt StrsAt boundR varK breachB headBad negBad cmpBad litBad safeR)
/-- What is said of a list of terms. -/
def FirstPost (bad : Bool) (w : World) (e : Ending) (w' : World) : Prop := ∃ (k i j : Int) (s : ByteArray), e = .returned (.agg #[.int .i64 k, .int .i64 i, .int .i64 j, .string s]) ∧ brN k i j s = bad ∧ Ext w w'
theorem brN_ne {k : Int} (h : k ≠ 0) (i j : Int) (s : ByteArray) : brN k i j s = true := by
  unfold brN
  simp [h]
set_option maxRecDepth 100000 in
set_option maxHeartbeats 4000000 in
theorem c_first1 (ts : List Term) (a : Option Addr) (n cap : Nat) (li : Int) (v1 v2 : Value) (bad : Term → Bool) (w : World) (ht : TermsAt w a n ts)
    (hc : ∀ t ∈ ts, ∀ W, Ext w W → Calls Tryz.prog 120 #[.agg #[.int .i64 t.kind, .string t.text], v1, v2] W (TermSaid (bad t) W)) :
    Calls Tryz.prog 119 #[.slice a n cap, .int .i64 li, .func (.func 120) #[] #[v1, v2]] w (FirstPost (ts.any bad) w) := by
  have hn := ht.1
  have HT := Lib.hid ht
  have HL := Lib.hid ht.2.1
  have HC := Lib.hid hc
  have nqb := neq_breach
  have hb00 : brN 0 0 0 ⟨#[]⟩ = false := rfl
  clear ht hc
  go_enter Tryz.func119, Tryz.ntmps119
  go_wp2
  refine wp_gen (fun W hW => ?_)
  have hE0 : Ext w W := by rw [hW]; exact ext_alloc (Below.refl _ _) _
  have hB0 : Blk W w.heap.size 144 (brC 0 0 0 ⟨#[]⟩) := by rw [hW]; exact brBlk w
  clear hW
  obtain ⟨rb, hrb⟩ : ∃ rb, rb = w.heap.size := ⟨_, rfl⟩
  rw [← hrb] at hB0 ⊢
  have HRB := Lib.hid hrb
  clear hrb
  go_loopw [12] (fun v wr => ∃ k : Nat, k ≤ n ∧ v = .int .i64 (k : Int) ∧ Ext w wr ∧ Blk wr rb 144 (brC 0 0 0 ⟨#[]⟩) ∧ (ts.take k).any bad = false) (fun v _ => n - (intOf v).toNat)
  case atStart => exact ⟨0, Nat.zero_le _, rfl, hE0, hB0, rfl⟩
  case round =>
    obtain ⟨k, hk, rfl, E, B, hq⟩ := hrel
    by_cases hlt : k < n
    · have hki : (k : Int) < (n : Int) := by omega
      obtain ⟨t, eb, eo, hx, rfl, c0, c1, _⟩ := (HT.out.keep E).2.at hlt
      have HB := Lib.hid B
      have HE := Lib.hid E
      have HQ : Hid ((ts.take (k + 1)).any bad = bad t) := by
        show _ = _
        rw [take_at hx, List.any_append, hq]
        simp
      have CT := Lib.hid (fun W hW => HC.out t (List.mem_of_getElem? hx) W (ext_trans E (ext_trans (ext_alloc (Below.refl _ _) (.cells #[.int .i64 t.kind, .string t.text] 42)) hW)))
      have HM : Hid (bad t = true → ts.any bad = true) := fun h => List.any_eq_true.2 ⟨t, List.mem_of_getElem? hx, h⟩
      have Z : rb < wr.heap.size := B.lt
      clear hx E B hq
      obtain ⟨q, hq⟩ : ∃ q, bad t = q := ⟨_, rfl⟩
      rw [hq] at HQ HM CT
      clear hq
      cases q with
      | true =>
        have HM2 : Hid (ts.any bad = true) := HM.out rfl
        have CT2 : Hid (∀ W, Ext (wr.alloc (.cells #[.int .i64 t.kind, .string t.text] 42)) W → Calls Tryz.prog 120 #[.agg #[.int .i64 t.kind, .string t.text], v1, v2] W fun e w' => ∃ (k : Int) (s : ByteArray), e = .returned (.agg #[.int .i64 k, .int .i64 0, .int .i64 0, .string s]) ∧ k ≠ 0 ∧ brN k 0 0 s = true ∧ Ext W w') := fun W hW => (CT.out W hW).mono (by
          rintro e w' ⟨k, s, rfl, ⟨_, _, h⟩ | ⟨h, _⟩, E⟩
          · cases h
          · exact ⟨k, s, rfl, h, brN_ne h _ _ _, E⟩)
        clear CT
        go_wp2_with (go_at_call 120; (with_reducible refine (CT2.out _ (Below.refl _ _)).mono ?_); rintro e w2 ⟨k', s', rfl, hk', hbn, E2⟩; obtain ⟨⟨x0, x1, x2, x3⟩, y0, y1, y2, y3⟩ := (HB.out.ext (ext_trans (ext_trans (ext_alloc (Below.refl _ _) _) E2) (ext_alloc (Below.refl _ _) (.cells #[.int .i64 k', .int .i64 li, .int .i64 (k : Int), .string s'] 144)))).br)
        refine bodyPost_ret (res_br rfl rfl ((HB.out.ext (ext_trans (ext_trans (ext_alloc (Below.refl _ _) _) E2) (ext_alloc (Below.refl _ _) _))).put4 _ _ _ _)) rfl ?_
        exact ⟨k', _, _, s', rfl, by rw [brN_ne hk', HM2.out], ext_put4 (ext_trans HE.out (ext_trans (ext_trans (ext_alloc (Below.refl _ _) _) E2) (ext_alloc (Below.refl _ _) _))) (by have := HRB.out; omega) _ _ _ _⟩
      | false =>
        have CT2 : Hid (∀ W, Ext (wr.alloc (.cells #[.int .i64 t.kind, .string t.text] 42)) W → Calls Tryz.prog 120 #[.agg #[.int .i64 t.kind, .string t.text], v1, v2] W fun e w' => e = .returned (.agg #[.int .i64 0, .int .i64 0, .int .i64 0, .string ⟨#[]⟩]) ∧ Ext W w') := fun W hW => (CT.out W hW).mono (by
          rintro e w' ⟨k, s, rfl, ⟨rfl, rfl, _⟩ | ⟨_, h⟩, E⟩
          · exact ⟨rfl, E⟩
          · cases h)
        clear CT
        go_wp2_with (go_at_call 120; (with_reducible refine (CT2.out _ (Below.refl _ _)).mono ?_); rintro e w2 ⟨rfl, E2⟩)
        go_roundw
        case rel => exact ⟨k + 1, by omega, by go_num, ext_alloc (ext_trans HE.out (ext_trans (ext_alloc (Below.refl _ _) _) E2)) _, HB.out.ext (ext_alloc (ext_trans (ext_alloc (Below.refl _ _) _) E2) _), HQ.out⟩
        case measure => simp [intOf]; omega
    · have hge : ¬ (k : Int) < (n : Int) := by omega
      have HALL : Hid (ts.any bad = false) := by
        rw [List.take_of_length_le (by have := HL.out; omega)] at hq
        exact hq
      have HE := Lib.hid E
      have HB := Lib.hid B
      obtain ⟨⟨x0, x1, x2, x3⟩, y0, y1, y2, y3⟩ := B.br
      clear hq E B
      go_wp2
      refine bodyPost_ret (res_br rfl rfl (HB.out.put4 _ _ _ _)) rfl ?_
      exact ⟨0, 0, 0, _, rfl, by rw [HALL.out]; rfl, ext_put4 HE.out (by have := HRB.out; omega) _ _ _ _⟩
set_option maxRecDepth 100000 in
set_option maxHeartbeats 4000000 in
theorem c_first2 (ts : List Term) (a : Option Addr) (n cap : Nat) (li : Int) (v1 : Value) (bad : Term → Bool) (w : World) (ht : TermsAt w a n ts)
    (hc : ∀ t ∈ ts, ∀ W, Ext w W → Calls Tryz.prog 122 #[.agg #[.int .i64 t.kind, .string t.text], v1] W (TermSaid (bad t) W)) :
    Calls Tryz.prog 119 #[.slice a n cap, .int .i64 li, .func (.func 122) #[] #[v1]] w (FirstPost (ts.any bad) w) := by
  have hn := ht.1
  have HT := Lib.hid ht
  have HL := Lib.hid ht.2.1
  have HC := Lib.hid hc
  have nqb := neq_breach
  have hb00 : brN 0 0 0 ⟨#[]⟩ = false := rfl
  clear ht hc
  go_enter Tryz.func119, Tryz.ntmps119
  go_wp2
  refine wp_gen (fun W hW => ?_)
  have hE0 : Ext w W := by rw [hW]; exact ext_alloc (Below.refl _ _) _
  have hB0 : Blk W w.heap.size 144 (brC 0 0 0 ⟨#[]⟩) := by rw [hW]; exact brBlk w
  clear hW
  obtain ⟨rb, hrb⟩ : ∃ rb, rb = w.heap.size := ⟨_, rfl⟩
  rw [← hrb] at hB0 ⊢
  have HRB := Lib.hid hrb
  clear hrb
  go_loopw [12] (fun v wr => ∃ k : Nat, k ≤ n ∧ v = .int .i64 (k : Int) ∧ Ext w wr ∧ Blk wr rb 144 (brC 0 0 0 ⟨#[]⟩) ∧ (ts.take k).any bad = false) (fun v _ => n - (intOf v).toNat)
  case atStart => exact ⟨0, Nat.zero_le _, rfl, hE0, hB0, rfl⟩
  case round =>
    obtain ⟨k, hk, rfl, E, B, hq⟩ := hrel
    by_cases hlt : k < n
    · have hki : (k : Int) < (n : Int) := by omega
      obtain ⟨t, eb, eo, hx, rfl, c0, c1, _⟩ := (HT.out.keep E).2.at hlt
      have HB := Lib.hid B
      have HE := Lib.hid E
      have HQ : Hid ((ts.take (k + 1)).any bad = bad t) := by
        show _ = _
        rw [take_at hx, List.any_append, hq]
        simp
      have CT := Lib.hid (fun W hW => HC.out t (List.mem_of_getElem? hx) W (ext_trans E (ext_trans (ext_alloc (Below.refl _ _) (.cells #[.int .i64 t.kind, .string t.text] 42)) hW)))
      have HM : Hid (bad t = true → ts.any bad = true) := fun h => List.any_eq_true.2 ⟨t, List.mem_of_getElem? hx, h⟩
      have Z : rb < wr.heap.size := B.lt
      clear hx E B hq
      obtain ⟨q, hq⟩ : ∃ q, bad t = q := ⟨_, rfl⟩
      rw [hq] at HQ HM CT
      clear hq
      cases q with
      | true =>
        have HM2 : Hid (ts.any bad = true) := HM.out rfl
        have CT2 : Hid (∀ W, Ext (wr.alloc (.cells #[.int .i64 t.kind, .string t.text] 42)) W → Calls Tryz.prog 122 #[.agg #[.int .i64 t.kind, .string t.text], v1] W fun e w' => ∃ (k : Int) (s : ByteArray), e = .returned (.agg #[.int .i64 k, .int .i64 0, .int .i64 0, .string s]) ∧ k ≠ 0 ∧ brN k 0 0 s = true ∧ Ext W w') := fun W hW => (CT.out W hW).mono (by
          rintro e w' ⟨k, s, rfl, ⟨_, _, h⟩ | ⟨h, _⟩, E⟩
          · cases h
          · exact ⟨k, s, rfl, h, brN_ne h _ _ _, E⟩)
        clear CT
        go_wp2_with (go_at_call 122; (with_reducible refine (CT2.out _ (Below.refl _ _)).mono ?_); rintro e w2 ⟨k', s', rfl, hk', hbn, E2⟩; obtain ⟨⟨x0, x1, x2, x3⟩, y0, y1, y2, y3⟩ := (HB.out.ext (ext_trans (ext_trans (ext_alloc (Below.refl _ _) _) E2) (ext_alloc (Below.refl _ _) (.cells #[.int .i64 k', .int .i64 li, .int .i64 (k : Int), .string s'] 144)))).br)
        refine bodyPost_ret (res_br rfl rfl ((HB.out.ext (ext_trans (ext_trans (ext_alloc (Below.refl _ _) _) E2) (ext_alloc (Below.refl _ _) _))).put4 _ _ _ _)) rfl ?_
        exact ⟨k', _, _, s', rfl, by rw [brN_ne hk', HM2.out], ext_put4 (ext_trans HE.out (ext_trans (ext_trans (ext_alloc (Below.refl _ _) _) E2) (ext_alloc (Below.refl _ _) _))) (by have := HRB.out; omega) _ _ _ _⟩
      | false =>
        have CT2 : Hid (∀ W, Ext (wr.alloc (.cells #[.int .i64 t.kind, .string t.text] 42)) W → Calls Tryz.prog 122 #[.agg #[.int .i64 t.kind, .string t.text], v1] W fun e w' => e = .returned (.agg #[.int .i64 0, .int .i64 0, .int .i64 0, .string ⟨#[]⟩]) ∧ Ext W w') := fun W hW => (CT.out W hW).mono (by
          rintro e w' ⟨k, s, rfl, ⟨rfl, rfl, _⟩ | ⟨_, h⟩, E⟩
          · exact ⟨rfl, E⟩
          · cases h)
        clear CT
        go_wp2_with (go_at_call 122; (with_reducible refine (CT2.out _ (Below.refl _ _)).mono ?_); rintro e w2 ⟨rfl, E2⟩)
        go_roundw
        case rel => exact ⟨k + 1, by omega, by go_num, ext_alloc (ext_trans HE.out (ext_trans (ext_alloc (Below.refl _ _) _) E2)) _, HB.out.ext (ext_alloc (ext_trans (ext_alloc (Below.refl _ _) _) E2) _), HQ.out⟩
        case measure => simp [intOf]; omega
    · have hge : ¬ (k : Int) < (n : Int) := by omega
      have HALL : Hid (ts.any bad = false) := by
        rw [List.take_of_length_le (by have := HL.out; omega)] at hq
        exact hq
      have HE := Lib.hid E
      have HB := Lib.hid B
      obtain ⟨⟨x0, x1, x2, x3⟩, y0, y1, y2, y3⟩ := B.br
      clear hq E B
      go_wp2
      refine bodyPost_ret (res_br rfl rfl (HB.out.put4 _ _ _ _)) rfl ?_
      exact ⟨0, 0, 0, _, rfl, by rw [HALL.out]; rfl, ext_put4 HE.out (by have := HRB.out; omega) _ _ _ _⟩
set_option maxRecDepth 100000 in
set_option maxHeartbeats 4000000 in
theorem c_first3 (ts : List Term) (a : Option Addr) (n cap : Nat) (li : Int) (v1 : Value) (bad : Term → Bool) (w : World) (ht : TermsAt w a n ts)
    (hc : ∀ t ∈ ts, ∀ W, Ext w W → Calls Tryz.prog 123 #[.agg #[.int .i64 t.kind, .string t.text], v1] W (TermSaid (bad t) W)) :
    Calls Tryz.prog 119 #[.slice a n cap, .int .i64 li, .func (.func 123) #[] #[v1]] w (FirstPost (ts.any bad) w) := by
  have hn := ht.1
  have HT := Lib.hid ht
  have HL := Lib.hid ht.2.1
  have HC := Lib.hid hc
  have nqb := neq_breach
  have hb00 : brN 0 0 0 ⟨#[]⟩ = false := rfl
  clear ht hc
  go_enter Tryz.func119, Tryz.ntmps119
  go_wp2
  refine wp_gen (fun W hW => ?_)
  have hE0 : Ext w W := by rw [hW]; exact ext_alloc (Below.refl _ _) _
  have hB0 : Blk W w.heap.size 144 (brC 0 0 0 ⟨#[]⟩) := by rw [hW]; exact brBlk w
  clear hW
  obtain ⟨rb, hrb⟩ : ∃ rb, rb = w.heap.size := ⟨_, rfl⟩
  rw [← hrb] at hB0 ⊢
  have HRB := Lib.hid hrb
  clear hrb
  go_loopw [12] (fun v wr => ∃ k : Nat, k ≤ n ∧ v = .int .i64 (k : Int) ∧ Ext w wr ∧ Blk wr rb 144 (brC 0 0 0 ⟨#[]⟩) ∧ (ts.take k).any bad = false) (fun v _ => n - (intOf v).toNat)
  case atStart => exact ⟨0, Nat.zero_le _, rfl, hE0, hB0, rfl⟩
  case round =>
    obtain ⟨k, hk, rfl, E, B, hq⟩ := hrel
    by_cases hlt : k < n
    · have hki : (k : Int) < (n : Int) := by omega
      obtain ⟨t, eb, eo, hx, rfl, c0, c1, _⟩ := (HT.out.keep E).2.at hlt
      have HB := Lib.hid B
      have HE := Lib.hid E
      have HQ : Hid ((ts.take (k + 1)).any bad = bad t) := by
        show _ = _
        rw [take_at hx, List.any_append, hq]
        simp
      have CT := Lib.hid (fun W hW => HC.out t (List.mem_of_getElem? hx) W (ext_trans E (ext_trans (ext_alloc (Below.refl _ _) (.cells #[.int .i64 t.kind, .string t.text] 42)) hW)))
      have HM : Hid (bad t = true → ts.any bad = true) := fun h => List.any_eq_true.2 ⟨t, List.mem_of_getElem? hx, h⟩
      have Z : rb < wr.heap.size := B.lt
      clear hx E B hq
      obtain ⟨q, hq⟩ : ∃ q, bad t = q := ⟨_, rfl⟩
      rw [hq] at HQ HM CT
      clear hq
      cases q with
      | true =>
        have HM2 : Hid (ts.any bad = true) := HM.out rfl
        have CT2 : Hid (∀ W, Ext (wr.alloc (.cells #[.int .i64 t.kind, .string t.text] 42)) W → Calls Tryz.prog 123 #[.agg #[.int .i64 t.kind, .string t.text], v1] W fun e w' => ∃ (k : Int) (s : ByteArray), e = .returned (.agg #[.int .i64 k, .int .i64 0, .int .i64 0, .string s]) ∧ k ≠ 0 ∧ brN k 0 0 s = true ∧ Ext W w') := fun W hW => (CT.out W hW).mono (by
          rintro e w' ⟨k, s, rfl, ⟨_, _, h⟩ | ⟨h, _⟩, E⟩
          · cases h
          · exact ⟨k, s, rfl, h, brN_ne h _ _ _, E⟩)
        clear CT
        go_wp2_with (go_at_call 123; (with_reducible refine (CT2.out _ (Below.refl _ _)).mono ?_); rintro e w2 ⟨k', s', rfl, hk', hbn, E2⟩; obtain ⟨⟨x0, x1, x2, x3⟩, y0, y1, y2, y3⟩ := (HB.out.ext (ext_trans (ext_trans (ext_alloc (Below.refl _ _) _) E2) (ext_alloc (Below.refl _ _) (.cells #[.int .i64 k', .int .i64 li, .int .i64 (k : Int), .string s'] 144)))).br)
        refine bodyPost_ret (res_br rfl rfl ((HB.out.ext (ext_trans (ext_trans (ext_alloc (Below.refl _ _) _) E2) (ext_alloc (Below.refl _ _) _))).put4 _ _ _ _)) rfl ?_
        exact ⟨k', _, _, s', rfl, by rw [brN_ne hk', HM2.out], ext_put4 (ext_trans HE.out (ext_trans (ext_trans (ext_alloc (Below.refl _ _) _) E2) (ext_alloc (Below.refl _ _) _))) (by have := HRB.out; omega) _ _ _ _⟩
      | false =>
        have CT2 : Hid (∀ W, Ext (wr.alloc (.cells #[.int .i64 t.kind, .string t.text] 42)) W → Calls Tryz.prog 123 #[.agg #[.int .i64 t.kind, .string t.text], v1] W fun e w' => e = .returned (.agg #[.int .i64 0, .int .i64 0, .int .i64 0, .string ⟨#[]⟩]) ∧ Ext W w') := fun W hW => (CT.out W hW).mono (by
          rintro e w' ⟨k, s, rfl, ⟨rfl, rfl, _⟩ | ⟨_, h⟩, E⟩
          · exact ⟨rfl, E⟩
          · cases h)
        clear CT
        go_wp2_with (go_at_call 123; (with_reducible refine (CT2.out _ (Below.refl _ _)).mono ?_); rintro e w2 ⟨rfl, E2⟩)
        go_roundw
        case rel => exact ⟨k + 1, by omega, by go_num, ext_alloc (ext_trans HE.out (ext_trans (ext_alloc (Below.refl _ _) _) E2)) _, HB.out.ext (ext_alloc (ext_trans (ext_alloc (Below.refl _ _) _) E2) _), HQ.out⟩
        case measure => simp [intOf]; omega
    · have hge : ¬ (k : Int) < (n : Int) := by omega
      have HALL : Hid (ts.any bad = false) := by
        rw [List.take_of_length_le (by have := HL.out; omega)] at hq
        exact hq
      have HE := Lib.hid E
      have HB := Lib.hid B
      obtain ⟨⟨x0, x1, x2, x3⟩, y0, y1, y2, y3⟩ := B.br
      clear hq E B
      go_wp2
      refine bodyPost_ret (res_br rfl rfl (HB.out.put4 _ _ _ _)) rfl ?_
      exact ⟨0, 0, 0, _, rfl, by rw [HALL.out]; rfl, ext_put4 HE.out (by have := HRB.out; omega) _ _ _ _⟩
end Go.Proofs.YtlalgaioiapjmaaGreatDoor
