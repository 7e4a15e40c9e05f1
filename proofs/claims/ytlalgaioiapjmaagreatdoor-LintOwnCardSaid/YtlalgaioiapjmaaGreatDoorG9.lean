/- The walks of the closures of schema.Safe. -/
import Derived.Test.YtlalgaioiapjmaaGreatDoorG8
namespace Go.Proofs.YtlalgaioiapjmaaGreatDoor
open Go.ChangeShapes Go.WideShapes Go.ChangeAt Go.RowKit
open K (Term Rule RuleV StrsAt boundR varK breachB headBad negBad cmpBad)
theorem res_br {fn : Func} {t : Tmp} {tmps : Array Value} {w : World} {b : Nat} {k i j : Int} {s : ByteArray} (hf : fn.results = #[.cell t 144]) (ht : tmps.getD t undef = .pointer (some ⟨b, 0, none⟩)) (h : Blk w b 144 [.int .i64 k, .int .i64 i, .int .i64 j, .string s]) : (results fn tmps).run Tryz.prog w = .ok (.agg #[.int .i64 k, .int .i64 i, .int .i64 j, .string s]) w := by
  have h0 := h.cell (i := 0) rfl
  have h1 := h.cell (i := 1) rfl
  have h2 := h.cell (i := 2) rfl
  have h3 := h.cell (i := 3) rfl
  have ht' : tmps[t]?.getD undef = .pointer (some ⟨b, 0, none⟩) := by rw [← ht]; simp
  simp only [results, hf]
  go_simp
/-- A breach in a block of its own. -/
abbrev brC (k i j : Int) (s : ByteArray) : List Value := [.int .i64 k, .int .i64 i, .int .i64 j, .string s]
theorem brBlk (w : World) : Blk (w.alloc (.cells #[.int .i64 0, .int .i64 0, .int .i64 0, .string ⟨#[]⟩] 144)) w.heap.size 144 (brC 0 0 0 ⟨#[]⟩) := Blk.new w _ _
theorem Blk.br {w : World} {b : Nat} {k i j : Int} {s : ByteArray} (h : Blk w b 144 (brC k i j s)) : (w.cell? ⟨b, 0, none⟩ = some (.int .i64 k) ∧ w.cell? ⟨b, 1, none⟩ = some (.int .i64 i) ∧ w.cell? ⟨b, 2, none⟩ = some (.int .i64 j) ∧ w.cell? ⟨b, 3, none⟩ = some (.string s)) ∧ w.frozen? ⟨b, 0, none⟩ = false ∧ w.frozen? ⟨b, 1, none⟩ = false ∧ w.frozen? ⟨b, 2, none⟩ = false ∧ w.frozen? ⟨b, 3, none⟩ = false :=
  ⟨⟨h.cell rfl, h.cell rfl, h.cell rfl, h.cell rfl⟩, h.free 0, h.free 1, h.free 2, h.free 3⟩
set_option maxRecDepth 100000 in
set_option maxHeartbeats 4000000 in
theorem c_safe2 (t : Term) (xs : List ByteArray) (pb : Addr) (a : Option Addr) (n cap : Nat) (w : World) (hc : w.cell? pb = some (.slice a n cap)) (h : StrsAt w a n xs) :
    Calls Tryz.prog 122 #[.agg #[.int .i64 t.kind, .string t.text], .pointer (some pb)] w (TermSaid (negBad xs t) w) := by
  have BR : Hid (∀ W, Ext w W → Calls Tryz.prog 121 #[.agg #[.int .i64 t.kind, .string t.text], .slice a n cap, .bool true] W (TermSaid (breachB t xs true) W)) := fun W hW => c_breach t xs a n cap true W (h.keep hW)
  have E0 : Hid (∀ o o', Ext w ((w.alloc o).alloc o')) := fun o o' => ext_alloc (ext_alloc (Below.refl _ _) _) _
  have hc2 : ∀ o o', ((w.alloc o).alloc o').cell? pb = some (.slice a n cap) := fun o o' => keep (E0.out o o') hc
  clear h hc
  obtain ⟨k, s⟩ := t
  by_cases h1 : k = 1
  · subst h1
    have e : breachB ⟨1, s⟩ xs true = negBad xs ⟨1, s⟩ := by
      unfold breachB negBad varK
      rfl
    rw [e] at BR
    have B0 := Lib.hid (brBlk (w.alloc (.cells #[.int .i64 1, .string s] 42)))
    rw [World.size_alloc] at B0
    go_enter Tryz.func122, Tryz.ntmps122
    go_wp2_with (go_at_call 121; (with_reducible refine (BR.out _ (E0.out _ _)).mono ?_); rintro e w2 ⟨k', s', rfl, hq, E2⟩; obtain ⟨⟨x0, x1, x2, x3⟩, y0, y1, y2, y3⟩ := (B0.out.ext E2).br)
    refine bodyPost_ret (res_br rfl rfl ((((B0.out.ext E2).set 0 (.int .i64 k')).set 1 (.int .i64 0)).set 2 (.int .i64 0) |>.set 3 (.string s'))) rfl ?_
    refine ⟨k', s', rfl, hq, ?_⟩
    have E3 := ext_trans (E0.out _ _) E2
    exact ext_set (ext_set (ext_set (ext_set E3 (Nat.le_succ _) _) (Nat.le_succ _) _) (Nat.le_succ _) _) (Nat.le_succ _) _
  · have q1 : (k != 1) = true := by simpa using h1
    have e : negBad xs ⟨k, s⟩ = false := by
      unfold negBad
      rw [show decide (k = 1) = false from decide_eq_false h1]
      rfl
    rw [e]
    clear h1
    go_enter Tryz.func122, Tryz.ntmps122
    go_wp2
    go_returns
    exact ⟨0, _, rfl, .inl ⟨rfl, rfl, rfl⟩, E0.out _ _⟩
set_option maxRecDepth 100000 in
set_option maxHeartbeats 4000000 in
theorem c_safe3 (t : Term) (xs : List ByteArray) (pb : Addr) (a : Option Addr) (n cap : Nat) (w : World) (hc : w.cell? pb = some (.slice a n cap)) (h : StrsAt w a n xs) :
    Calls Tryz.prog 123 #[.agg #[.int .i64 t.kind, .string t.text], .pointer (some pb)] w (TermSaid (cmpBad xs t) w) := by
  have BR : Hid (∀ W, Ext w W → Calls Tryz.prog 121 #[.agg #[.int .i64 t.kind, .string t.text], .slice a n cap, .bool false] W (TermSaid (breachB t xs false) W)) := fun W hW => c_breach t xs a n cap false W (h.keep hW)
  have E0 : Hid (∀ o o', Ext w ((w.alloc o).alloc o')) := fun o o' => ext_alloc (ext_alloc (Below.refl _ _) _) _
  have hc2 : ∀ o o', ((w.alloc o).alloc o').cell? pb = some (.slice a n cap) := fun o o' => keep (E0.out o o') hc
  clear h hc
  obtain ⟨k, s⟩ := t
  by_cases h1 : k = 1 ∨ k = 2
  · have e : cmpBad xs ⟨k, s⟩ = breachB ⟨k, s⟩ xs false := by
      unfold cmpBad
      rw [show (decide (k = 1) || decide (k = 2)) = true by simpa using h1, Bool.true_and]
    rw [e]
    have B0 := Lib.hid (brBlk (w.alloc (.cells #[.int .i64 k, .string s] 42)))
    rw [World.size_alloc] at B0
    rcases h1 with rfl | rfl
    all_goals
      go_enter Tryz.func123, Tryz.ntmps123
      go_wp2_with (go_at_call 121; (with_reducible refine (BR.out _ (E0.out _ _)).mono ?_); rintro e w2 ⟨k', s', rfl, hq, E2⟩; obtain ⟨⟨x0, x1, x2, x3⟩, y0, y1, y2, y3⟩ := (B0.out.ext E2).br)
      refine bodyPost_ret (res_br rfl rfl ((((B0.out.ext E2).set 0 (.int .i64 k')).set 1 (.int .i64 0)).set 2 (.int .i64 0) |>.set 3 (.string s'))) rfl ?_
      refine ⟨k', s', rfl, hq, ?_⟩
      have E3 := ext_trans (E0.out _ _) E2
      exact ext_set (ext_set (ext_set (ext_set E3 (Nat.le_succ _) _) (Nat.le_succ _) _) (Nat.le_succ _) _) (Nat.le_succ _) _
  · have q1 : (k != 1) = true := by simp only [bne_iff_ne, ne_eq]; omega
    have q2 : (k != 2) = true := by simp only [bne_iff_ne, ne_eq]; omega
    have e : cmpBad xs ⟨k, s⟩ = false := by
      unfold cmpBad
      rw [show (decide (k = 1) || decide (k = 2)) = false by simpa using h1, Bool.false_and]
    rw [e]
    clear h1
    go_enter Tryz.func123, Tryz.ntmps123
    go_wp2
    go_returns
    exact ⟨0, _, rfl, .inl ⟨rfl, rfl, rfl⟩, E0.out _ _⟩
theorem Blk.put4 {w : World} {b : Nat} {k0 i0 j0 : Int} {s0 : ByteArray} (h : Blk w b 144 (brC k0 i0 j0 s0)) (k i j : Int) (s : ByteArray) : Blk ((((w.setCell ⟨b, 0, none⟩ (.int .i64 k)).setCell ⟨b, 1, none⟩ (.int .i64 i)).setCell ⟨b, 2, none⟩ (.int .i64 j)).setCell ⟨b, 3, none⟩ (.string s)) b 144 (brC k i j s) :=
  (((h.set 0 _).set 1 _).set 2 _).set 3 _
theorem ext_put4 {w x : World} {b : Nat} (h : Ext w x) (hb : w.heap.size ≤ b) (k i j s : Value) : Ext w ((((x.setCell ⟨b, 0, none⟩ k).setCell ⟨b, 1, none⟩ i).setCell ⟨b, 2, none⟩ j).setCell ⟨b, 3, none⟩ s) :=
  ext_set (ext_set (ext_set (ext_set h hb _) hb _) hb _) hb _
set_option maxRecDepth 100000 in
set_option maxHeartbeats 4000000 in
theorem c_safe1 (r : Rule) (t : Term) (xs : List ByteArray) (pb : Addr) (rb : Nat) (a : Option Addr) (n cap : Nat) (ab : Option Addr) (cb : Nat) (w : World) (hc : w.cell? pb = some (.slice a n cap)) (h : StrsAt w a n xs) (hr : w.cell? ⟨rb, 2, none⟩ = some (.slice ab r.body.length cb)) :
    Calls Tryz.prog 120 #[.agg #[.int .i64 t.kind, .string t.text], .pointer (some pb), .pointer (some ⟨rb, 0, none⟩)] w (TermSaid (headBad r xs t) w) := by
  have BR : Hid (∀ W, Ext w W → Calls Tryz.prog 121 #[.agg #[.int .i64 t.kind, .string t.text], .slice a n cap, .bool false] W (TermSaid (breachB t xs false) W)) := fun W hW => c_breach t xs a n cap false W (h.keep hW)
  have E0 : Hid (∀ o o', Ext w ((w.alloc o).alloc o')) := fun o o' => ext_alloc (ext_alloc (Below.refl _ _) _) _
  have hc2 : ∀ o o', ((w.alloc o).alloc o').cell? pb = some (.slice a n cap) := fun o o' => keep (E0.out o o') hc
  have HRC := Lib.hid hr
  clear h hc hr
  have eqb := eql_breach
  obtain ⟨k, s⟩ := t
  have B0 := Lib.hid (brBlk (w.alloc (.cells #[.int .i64 k, .string s] 42)))
  rw [World.size_alloc] at B0
  have T0 : Hid ((w.alloc (.cells #[.int .i64 k, .string s] 42)).cell? ⟨w.heap.size, 0, none⟩ = some (.int .i64 k)) := by show _ = _; go_simp
  obtain ⟨b4, e4⟩ : ∃ b, decide (4 ≤ k) = b := ⟨_, rfl⟩
  obtain ⟨b7, e7⟩ : ∃ b, decide (k ≤ 7) = b := ⟨_, rfl⟩
  obtain ⟨bz, ez⟩ : ∃ b, ((r.body.length : Int) == 0) = b := ⟨_, rfl⟩
  obtain ⟨bb, hbb⟩ : ∃ b, breachB ⟨k, s⟩ xs false = b := ⟨_, rfl⟩
  have HH : Hid (headBad r xs ⟨k, s⟩ = (bb || ((b4 && b7) && bz))) := by
    show _ = _
    rw [← e4, ← e7, ← ez, ← hbb]
    unfold headBad K.aggK
    cases r.body with
    | nil => simp
    | cons l ls => simp; omega
  rw [hbb] at BR
  clear hbb
  cases bb with
  | true =>
    have BR2 : Hid (∀ W, Ext w W → Calls Tryz.prog 121 #[.agg #[.int .i64 k, .string s], .slice a n cap, .bool false] W fun e w' => ∃ (k : Int) (s : ByteArray), e = .returned (.agg #[.int .i64 k, .int .i64 0, .int .i64 0, .string s]) ∧ k ≠ 0 ∧ brN k 0 0 s = true ∧ Ext W w') := fun W hW => (BR.out W hW).mono (by
      rintro e w' ⟨k, s, rfl, ⟨_, _, h⟩ | ⟨h, _⟩, E⟩
      · cases h
      · exact ⟨k, s, rfl, h, by unfold brN; simp [h], E⟩)
    clear BR e4 e7 ez
    go_enter Tryz.func120, Tryz.ntmps120
    go_wp2_with (go_at_call 121; (with_reducible refine (BR2.out _ (E0.out _ _)).mono ?_); rintro e w2 ⟨k', s', rfl, hk, hbn, E2⟩; obtain ⟨⟨x0, x1, x2, x3⟩, y0, y1, y2, y3⟩ := (B0.out.ext (ext_trans E2 (ext_alloc (Below.refl _ _) (.cells #[.int .i64 k', .int .i64 0, .int .i64 0, .string s'] 144)))).br)
    refine bodyPost_ret (res_br rfl rfl ((B0.out.ext (ext_trans E2 (ext_alloc (Below.refl _ _) _))).put4 _ _ _ _)) rfl ?_
    refine ⟨k', s', rfl, .inr ⟨hk, by rw [HH.out]; rfl⟩, ext_put4 (ext_alloc (ext_trans (E0.out _ _) E2) _) (Nat.le_succ _) _ _ _ _⟩
  | false =>
    have BR2 : Hid (∀ W, Ext w W → Calls Tryz.prog 121 #[.agg #[.int .i64 k, .string s], .slice a n cap, .bool false] W fun e w' => e = .returned (.agg #[.int .i64 0, .int .i64 0, .int .i64 0, .string ⟨#[]⟩]) ∧ Ext W w') := fun W hW => (BR.out W hW).mono (by
      rintro e w' ⟨k, s, rfl, ⟨rfl, rfl, _⟩ | ⟨_, h⟩, E⟩
      · exact ⟨rfl, E⟩
      · cases h)
    have hbn : brN 0 0 0 ⟨#[]⟩ = false := rfl
    clear BR
    cases b4 with
    | false =>
      clear e7 ez
      go_enter Tryz.func120, Tryz.ntmps120
      go_wp2_with (go_at_call 121; (with_reducible refine (BR2.out _ (E0.out _ _)).mono ?_); rintro e w2 ⟨rfl, E2⟩; obtain ⟨⟨x0, x1, x2, x3⟩, y0, y1, y2, y3⟩ := (B0.out.ext (ext_trans E2 (ext_alloc (Below.refl _ _) (.cells #[.int .i64 0, .int .i64 0, .int .i64 0, .string ⟨#[]⟩] 144)))).br; have ht0 := fun o => keep (ext_trans (ext_trans (ext_alloc (Below.refl _ _) _) E2) (ext_alloc (Below.refl _ _) o)) T0.out)
      refine bodyPost_ret (res_br rfl rfl ((B0.out.ext (ext_trans E2 (ext_alloc (Below.refl _ _) _))).put4 _ _ _ _)) rfl ?_
      exact ⟨0, _, rfl, .inl ⟨rfl, rfl, by rw [HH.out]; rfl⟩, ext_put4 (ext_alloc (ext_trans (E0.out _ _) E2) _) (Nat.le_succ _) _ _ _ _⟩
    | true =>
      cases b7 with
      | false =>
        clear ez
        go_enter Tryz.func120, Tryz.ntmps120
        go_wp2_with (go_at_call 121; (with_reducible refine (BR2.out _ (E0.out _ _)).mono ?_); rintro e w2 ⟨rfl, E2⟩; obtain ⟨⟨x0, x1, x2, x3⟩, y0, y1, y2, y3⟩ := (B0.out.ext (ext_trans E2 (ext_alloc (Below.refl _ _) (.cells #[.int .i64 0, .int .i64 0, .int .i64 0, .string ⟨#[]⟩] 144)))).br; have ht0 := fun o => keep (ext_trans (ext_trans (ext_alloc (Below.refl _ _) _) E2) (ext_alloc (Below.refl _ _) o)) T0.out)
        refine bodyPost_ret (res_br rfl rfl ((B0.out.ext (ext_trans E2 (ext_alloc (Below.refl _ _) _))).put4 _ _ _ _)) rfl ?_
        exact ⟨0, _, rfl, .inl ⟨rfl, rfl, by rw [HH.out]; rfl⟩, ext_put4 (ext_alloc (ext_trans (E0.out _ _) E2) _) (Nat.le_succ _) _ _ _ _⟩
      | true =>
        cases bz with
        | false =>
          go_enter Tryz.func120, Tryz.ntmps120
          go_wp2_with (go_at_call 121; (with_reducible refine (BR2.out _ (E0.out _ _)).mono ?_); rintro e w2 ⟨rfl, E2⟩; obtain ⟨⟨x0, x1, x2, x3⟩, y0, y1, y2, y3⟩ := (B0.out.ext (ext_trans E2 (ext_alloc (Below.refl _ _) (.cells #[.int .i64 0, .int .i64 0, .int .i64 0, .string ⟨#[]⟩] 144)))).br; have ht0 := fun o => keep (ext_trans (ext_trans (ext_alloc (Below.refl _ _) _) E2) (ext_alloc (Below.refl _ _) o)) T0.out; have hr2 := fun o => keep (ext_trans (ext_trans (E0.out _ _) E2) (ext_alloc (Below.refl _ _) o)) HRC.out)
          refine bodyPost_ret (res_br rfl rfl ((B0.out.ext (ext_trans E2 (ext_alloc (Below.refl _ _) _))).put4 _ _ _ _)) rfl ?_
          exact ⟨0, _, rfl, .inl ⟨rfl, rfl, by rw [HH.out]; rfl⟩, ext_put4 (ext_alloc (ext_trans (E0.out _ _) E2) _) (Nat.le_succ _) _ _ _ _⟩
        | true =>
          go_enter Tryz.func120, Tryz.ntmps120
          go_wp2_with (go_at_call 121; (with_reducible refine (BR2.out _ (E0.out _ _)).mono ?_); rintro e w2 ⟨rfl, E2⟩; obtain ⟨⟨x0, x1, x2, x3⟩, y0, y1, y2, y3⟩ := (B0.out.ext (ext_trans E2 (ext_alloc (Below.refl _ _) (.cells #[.int .i64 3, .int .i64 0, .int .i64 0, .string ⟨#[]⟩] 144)))).br; have ht0 := fun o => keep (ext_trans (ext_trans (ext_alloc (Below.refl _ _) _) E2) (ext_alloc (Below.refl _ _) o)) T0.out; have hr2 := fun o => keep (ext_trans (ext_trans (E0.out _ _) E2) (ext_alloc (Below.refl _ _) o)) HRC.out)
          refine bodyPost_ret (res_br rfl rfl ((B0.out.ext (ext_trans E2 (ext_alloc (Below.refl _ _) _))).put4 _ _ _ _)) rfl ?_
          exact ⟨3, _, rfl, .inr ⟨by decide, by rw [HH.out]; rfl⟩, ext_put4 (ext_alloc (ext_trans (E0.out _ _) E2) _) (Nat.le_succ _) _ _ _ _⟩
end Go.Proofs.YtlalgaioiapjmaaGreatDoor
