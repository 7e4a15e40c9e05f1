/- The walk of the law TrieAll: for every rows and order it returns true, and nothing old is touched. -/
import Derived.Test.YthjpfplebbnbpaaAwk
import Derived.Test.YthjpfplebbnbpaaDfs
import Derived.Deep.CutBlock
namespace Go.Proofs.Ythjpfplebbnbpaa
open Go.ChangeShapes Go.WideShapes Go.ChangeAt Go.RowKit
theorem CurV.apart {w : World} {lo pc pt : Nat} {rb : Option Nat} {sp : List (Nat × Nat)} (h : CurV w lo pc pt rb sp) {base size n : Nat} {e : TypeId} {v : Value} {xs : List Value} (ho : w.ownsRow base e size v n xs) (h1 : e ≠ 65) (h2 : e ≠ 69) : ∀ b, v.ownBlock = some b → ¬ CurB pc rb b := by
  obtain ⟨⟨a, c, c1, c2, c3⟩, _⟩ := h
  intro b hb hc
  rcases hc with rfl | hc
  · rcases ho.2 with ⟨e0, _⟩ | ⟨g, c', cur, e0, _, hg, _⟩
    · rw [e0] at hb; cases hb
    · rw [e0] at hb
      cases hb
      rw [c1] at hg
      cases hg
      exact h1 rfl
  · rcases own_apart ho c2 h2 with q | q
    · rw [q] at hb; cases hb
    · exact q (by rw [hb, c3, hc])
/-- The cursor, and the ways that were met, since w4. -/
structure AllSt (w4 : World) (pc pt : Nat) (rb : Option Nat) (sp : List (Nat × Nat)) (a : Option Addr) (n c : Nat) (rs : List (List ByteArray)) (W : World) : Prop where
  ext : Ext w4 W
  cur : CurV W w4.heap.size pc pt rb sp
  met : ∃ us, W.ownsRow w4.heap.size 33 1 (.slice a n c) n us ∧ RowsAt w4.heap.size W us rs
  len : n = rs.length
theorem AllSt.keep {w4 : World} {pc pt : Nat} {rb : Option Nat} {sp : List (Nat × Nat)} {a : Option Addr} {n c : Nat} {rs : List (List ByteArray)} {W W' : World} (h : AllSt w4 pc pt rb sp a n c rs W) (e : Ext W W') : AllSt w4 pc pt rb sp a n c rs W' := by
  obtain ⟨us, h1, h2⟩ := h.met
  exact ⟨ext_trans h.ext e, h.cur.ext e, ⟨us, up_ext h1 e, h2.ext e⟩, h.len⟩
theorem AllSt.move {w4 : World} {pc pt : Nat} {rb rb' : Option Nat} {sp sp' : List (Nat × Nat)} {a : Option Addr} {n c : Nat} {rs : List (List ByteArray)} {W W' : World} (h : AllSt w4 pc pt rb sp a n c rs W) (hc : CurV W' w4.heap.size pc pt rb' sp') (hb : ButS (CurB pc rb) W W') : AllSt w4 pc pt rb' sp' a n c rs W' := by
  obtain ⟨us, h1, h2⟩ := h.met
  refine ⟨ext_of_but h.ext hb (fun b hb' hh => ?_), hc, ⟨us, hb.own h1 (h.cur.apart h1 (by decide) (by decide)), ⟨h2.1, fun i r v q1 q2 => hb.own (h2.2 i r v q1 q2) (h.cur.apart (h2.2 i r v q1 q2) (by decide) (by decide))⟩⟩, h.len⟩
  rcases hh with rfl | hh
  · have := h.cur.lo; omega
  · have := (h.cur.ne hh).2.1; omega
/-- One way more is met. -/
theorem AllSt.push {w4 : World} {pc pt : Nat} {rb : Option Nat} {sp : List (Nat × Nat)} {a : Option Addr} {n c g c' : Nat} {rs : List (List ByteArray)} {r : List ByteArray} {W w1 : World} {o : Obj} {u : Value} {us : List Value} (h : AllSt w4 pc pt rb sp a n c rs W) (hus : W.ownsRow w4.heap.size 33 1 (.slice a n c) n us) (hrs : RowsAt w4.heap.size W us rs) (hu : W.ownsRow w4.heap.size 9 1 u r.length (r.map Value.string))
    (r1 : w1.ownsRow w4.heap.size 33 1 (.slice (some ⟨g, 0, none⟩) (n + 1) c') (n + 1) (us ++ [u])) (r2 : (W.alloc o).grownBy w1 (Value.slice a n c).ownBlock) : AllSt w4 pc pt rb sp (some ⟨g, 0, none⟩) (n + 1) c' (rs ++ [r]) w1 := by
  have hb : ButS (fun b => (Value.slice a n c).ownBlock = some b) W w1 := ((ButS.refl _ W).alloc o).grown r2 (fun b e => .inl e)
  have keepS : ∀ {v : Value} {m : Nat} {xs : List Value}, W.ownsRow w4.heap.size 9 1 v m xs → w1.ownsRow w4.heap.size 9 1 v m xs := fun hh => (hh.alloc o).kept r2 (own_apart (hh.alloc o) (hus.alloc o) (by decide))
  have hrs1 : RowsAt w4.heap.size w1 us rs := ⟨hrs.1, fun i r v q1 q2 => keepS (hrs.2 i r v q1 q2)⟩
  refine ⟨ext_of_but h.ext hb (fun b hb' hh => ?_), h.cur.buts hb (fun b hb' hh => h.cur.apart hus (by decide) (by decide) b hh hb'), ⟨us ++ [u], r1, rows_snoc hrs1 (keepS hu)⟩, by rw [List.length_append, List.length_singleton, ← h.len]⟩
  have := (hus.lt b hh).1
  omega
theorem wpList_push_row {ops : Array Oper} {rest : List Oper} {o : Oper} {a : Act} {Q : Exit → Act → World → Prop} (W0 : World) (z : Value) (base : Nat) (v : Value) (n : Nat) (l : List Value) (hown : W0.ownsRow base 33 1 v n l) (hn : n ≤ 1000000) (hbase : base ≤ W0.heap.size) (hz : z.oneCell' = true) (hgd : o.guard = none) (s x : Operand)
    (ho : o.op = .call { callee := .builtin .append, args := #[s, x], argTypes := #[22, 22] }) (hs : a.eval s = v) (hx : a.eval x = .slice (some ⟨W0.heap.size, 0, none⟩) 1 1)
    (h : ∀ g cap w', w'.ownsRow base 33 1 (.slice (some ⟨g, 0, none⟩) (n + 1) cap) (n + 1) (l ++ [z]) → (W0.alloc (.cells #[z] 33)).grownBy w' v.ownBlock → wpList Try.prog ops Q rest (a.put o.dst (.slice (some ⟨g, 0, none⟩) (n + 1) cap)) w') : wpList Try.prog ops Q (o :: rest) a (W0.alloc (.cells #[z] 33)) := by
  obtain ⟨j0, hj, yz0, yz1, yz2⟩ := info_parts info_row
  refine wpList_append_any hgd s x 22 ho base 33 j0 (.slice none 0 0) 1 24 Try.underlying22 hj yz0 yz1 yz2 rfl (by decide) v n l hs (hown.alloc _) (some ⟨W0.heap.size, 0, none⟩) 1 1 [z] hx (by intro h; cases h) rfl (fun ad e => by cases e; exact news1 W0 _ _) (by simpa using hz) (by unfold maxLen; omega) (by omega) (by simp; omega) fun v' w' h1 h2 => ?_
  obtain ⟨g, cap, rfl⟩ := ownsRow_succ h1
  exact h g cap w' h1 h2
theorem cmpB_range (a b : ByteArray) : cmpB a b = -1 ∨ cmpB a b = 0 ∨ cmpB a b = 1 := by
  unfold cmpB
  split
  · exact .inl rfl
  · split
    · exact .inr (.inl rfl)
    · exact .inr (.inr rfl)
theorem cmpRow_range : ∀ (x y : List ByteArray), cmpRow x y = -1 ∨ cmpRow x y = 0 ∨ cmpRow x y = 1
  | [], [] => .inr (.inl rfl)
  | [], _ :: _ => .inl rfl
  | _ :: _, [] => .inr (.inr rfl)
  | x :: xs, y :: ys => by
    rw [cmpRow]
    split
    · exact cmpB_range x y
    · exact cmpRow_range xs ys
theorem cmpRow_lt {x y : List ByteArray} (h : cmpRow x y < 0) : cmpRow x y = -1 := by
  rcases cmpRow_range x y with e | e | e <;> omega
/-- Without levels there is a way just if there is a row. -/
theorem ways_none {ways rs : List (List ByteArray)} {os : List Int} (hw : Ways 0 ways) (ho : os = []) (hmem : ∀ z, z ∈ ways ↔ ∃ r ∈ rs, projM os r = z) : ways.length = 0 ∧ rs.length = 0 ∨ ways.length = 1 ∧ 0 < rs.length := by
  subst ho
  rcases rs with _ | ⟨r, rs⟩
  · left
    refine ⟨?_, rfl⟩
    rcases ways with _ | ⟨z, ways⟩
    · rfl
    · obtain ⟨_, h, _⟩ := (hmem z).1 (List.mem_cons_self ..)
      cases h
  · right
    refine ⟨?_, by simp⟩
    have h0 : [] ∈ ways := (hmem []).2 ⟨r, List.mem_cons_self .., rfl⟩
    rcases ways with _ | ⟨z, _ | ⟨z2, ways⟩⟩
    · cases h0
    · rfl
    · have e1 := hw.len z (List.mem_cons_self ..)
      have e2 := hw.len z2 (List.mem_cons_of_mem _ (List.mem_cons_self ..))
      have h1 := (List.pairwise_cons.1 hw.rising).1 z2 (List.mem_cons_self ..)
      rw [List.eq_nil_of_length_eq_zero e1, List.eq_nil_of_length_eq_zero e2] at h1
      simp [cmpRow] at h1
set_option maxRecDepth 100000 in
set_option maxHeartbeats 8000000 in
theorem c_trieAll (x : CaseV) (rows : List (List ByteArray)) (os : List Int) (w : World) (h : CaseAt w x rows os) :
    Calls Try.prog 3 #[x.v] w fun e w' => e = .returned (.bool true) ∧ Ext w w' := by
  have AW := Lib.hid c_awake
  have GR : Hid (∀ w1, Calls Try.prog 7 #[x.v] w1 fun e w' => e = .returned (.bool (decide (400 < x.rn))) ∧ Ext w1 w') := fun w1 => c_great x w1
  have HC := Lib.hid h
  by_cases hg : 400 < x.rn
  · rw [decide_eq_true hg] at GR
    obtain ⟨ar0, ra, rn, rc, oa, on, oc⟩ := x
    unfold CaseV.v at GR ⊢
    dsimp only at GR ⊢
    clear h hg
    go_enter Try.func3, Try.ntmps3
    go_upto_region 3 with (go_at_call 6; (with_reducible refine (AW.out _).mono ?_); rintro e w1 ⟨rfl, E1⟩)
    refine wp_gen (fun W1 hW1 => ?_)
    have e1 : Hid (Ext w W1) := by show Ext _ _; rw [hW1]; exact ext_trans (ext_alloc (Below.refl _ _) _) E1
    have x0 : W1.cell? ⟨w.heap.size, 0, none⟩ = some (.int .i64 ar0) := by rw [hW1]; exact keep E1 (by go_simp)
    have x1 : W1.cell? ⟨w.heap.size, 1, none⟩ = some (.slice ra rn rc) := by rw [hW1]; exact keep E1 (by go_simp)
    have x2 : W1.cell? ⟨w.heap.size, 2, none⟩ = some (.slice oa on oc) := by rw [hW1]; exact keep E1 (by go_simp)
    clear hW1
    go_wp2_with (go_at_call 7; (with_reducible refine (GR.out _).mono ?_); rintro e w2 ⟨rfl, E2⟩)
    go_returns
    exact ⟨rfl, ext_trans e1.out E2⟩
  · rw [decide_eq_false hg] at GR
    have hg2 : x.rn ≤ 400 := by omega
    have hrl : rows.length = x.rn := h.rows.1
    have FR : Hid (∀ w1, Ext w w1 → Calls Try.prog 8 #[x.v] w1 fun e w' => Ext w1 w' ∧ ∃ p, e = .returned (.tuple #[.pointer p, .bool true]) ∧ (p = none ∨ ∃ (ar : Nat) (pt : Nat) (ways : List (List ByteArray)), p = some ⟨pt, 0, none⟩ ∧ x.ar = (ar : Int) ∧ ar ≤ 64 ∧ orderOk ar os ∧ TrieV w' pt os.length ways ∧ Ways os.length ways ∧ (∀ z, z ∈ ways ↔ ∃ r ∈ rowsM ar rows, projM os r = z) ∧ ways.length ≤ 400)) := fun w1 h1 => (c_from x rows os w1 (HC.out.keep h1) hg2).mono fun e w' ⟨r1, r2⟩ => ⟨r1, by
      rcases r2 with rfl | ⟨ar, pt, ways, rfl, s1, s2, s3, _, _, s4, s5, s6, s7⟩
      · exact ⟨none, rfl, .inl rfl⟩
      · exact ⟨_, rfl, .inr ⟨ar, pt, ways, rfl, s1, s2, s3, s4, s5, s6, by have := (rowsM_facts ar rows).2.2; omega⟩⟩⟩
    have KP : Hid (∀ (ar : Nat) w1, x.ar = (ar : Int) → ar ≤ 64 → Ext w w1 → Calls Try.prog 19 #[x.v] w1 fun e w' => Ext w1 w' ∧ ∃ a c, e = .returned (.slice a (rowsM ar rows).length c)) := fun ar w1 ha1 ha2 h1 => (c_kept x rows os w1 (HC.out.keep h1) hg2).mono fun e w' ⟨r1, a, n, c, r2, r3⟩ => by
      rcases r3 with ⟨s1, _⟩ | ⟨ar', s1, s2, s3, _⟩
      · exact absurd (show (0 : Int) ≤ x.ar ∧ x.ar ≤ 64 by omega) s1
      · obtain rfl : ar' = ar := by omega
        subst s3
        exact ⟨r1, a, c, r2⟩
    have CV : Hid (∀ (ar : Nat) w1 am nm cm ways, x.ar = (ar : Int) → ar ≤ 64 → orderOk ar os → Ext w w1 → ItemsAt w1 am nm ways → nm ≤ 400 → (∀ z, z ∈ ways ↔ ∃ r ∈ rowsM ar rows, projM os r = z) → Calls Try.prog 21 #[x.v, .slice am nm cm] w1 fun e w' => e = .returned (.bool true) ∧ Ext w1 w') := fun ar w1 am nm cm ways s1 s2 s3 s4 s5 s6 s7 => c_covers x rows os ar am nm cm ways w1 (HC.out.keep s4) hg2 s1 s2 s3 s5 s6 s7
    have HOL : Hid (os.length = x.on) := h.order.2.1
    obtain ⟨ar0, ra, rn, rc, oa, on, oc⟩ := x
    unfold CaseV.v at GR FR KP CV ⊢
    dsimp only at GR FR KP CV HOL hrl ⊢
    clear h hg hg2
    go_enter Try.func3, Try.ntmps3
    go_upto_region 3 with (go_at_call 6; (with_reducible refine (AW.out _).mono ?_); rintro e w1 ⟨rfl, E1⟩)
    refine wp_gen (fun W1 hW1 => ?_)
    have e1 : Ext w W1 := by rw [hW1]; exact ext_trans (ext_alloc (Below.refl _ _) _) E1
    have x0 : W1.cell? ⟨w.heap.size, 0, none⟩ = some (.int .i64 ar0) := by rw [hW1]; exact keep E1 (by go_simp)
    have x1 : W1.cell? ⟨w.heap.size, 1, none⟩ = some (.slice ra rn rc) := by rw [hW1]; exact keep E1 (by go_simp)
    have x2 : W1.cell? ⟨w.heap.size, 2, none⟩ = some (.slice oa on oc) := by rw [hW1]; exact keep E1 (by go_simp)
    clear hW1
    go_upto_region 6 with (first
      | (go_at_call 7; (with_reducible refine (GR.out _).mono ?_); rintro e w2 ⟨rfl, E2⟩; have y0 := keep E2 x0; have y1 := keep E2 x1; have y2 := keep E2 x2)
      | (go_at_call 8; (with_reducible refine (FR.out _ (ext_trans e1 E2)).mono ?_); rintro e w3 ⟨E3, p, rfl, hp⟩))
    have eqn := nil_eqT
    have eqp := ptr_eqT
    have e3 : Ext w w3 := ext_trans e1 (ext_trans E2 E3)
    rcases hp with rfl | ⟨ar, pt, ways, rfl, hare, har64, hok, tv, hw, hmem, hN⟩
    · go_wp2
      go_returns
      exact ⟨rfl, e3⟩
    · have HARE := Lib.hid hare
      have HOK := Lib.hid hok
      have TV := Lib.hid tv
      have HW := Lib.hid hw
      have HMEM := Lib.hid hmem
      have hd64 : os.length ≤ 64 := by have := hok.len; omega
      obtain ⟨d, hd⟩ : ∃ d, os.length = d := ⟨_, rfl⟩
      have HD := Lib.hid hd
      rw [hd] at TV HW hd64 HOL
      have X0 := Lib.hid (keep E3 y0)
      have X1 := Lib.hid (keep E3 y1)
      have X2 := Lib.hid (keep E3 y2)
      have E3h := Lib.hid e3
      have WK := Lib.hid (c_walk pt d ways w3.heap.size w3 TV.out (Nat.le_refl _))
      clear hare hok tv hw hmem hd x0 x1 x2 y0 y1 y2 E1 E2 E3 e1 e3 FR GR AW
      go_upto_block 0 with (go_at_call 9; (with_reducible refine WK.out.mono ?_); rintro e w5 ⟨rfl, cv5, E5⟩)
      have S5 : Hid (AllSt w3 w3.heap.size pt none [] none 0 0 [] w5) := ⟨E5, cv5, ⟨[], World.ownsRow_nil _ _ _ _, rfl, fun i r v h => by simp at h⟩, rfl⟩
      obtain ⟨pc, hpc⟩ : ∃ pc, w3.heap.size = pc := ⟨_, rfl⟩
      rw [hpc] at S5 ⊢
      clear hpc WK cv5 E5
      go_cut [6] (fun v6 wc => ∃ a n c mets rb sp, v6 = .slice a n c ∧ AllSt w3 pc pt rb sp a n c mets wc ∧ ((0 < d ∧ mets = ways) ∨ (d = 0 ∧ mets = [])))
      case first =>
        go_wp2
        go_loopw [6, 7] (fun v6 v7 wj => ∃ (s cur c : Nat) (sp : List (Nat × Nat)) (rb : Option Nat) (a : Option Addr), v7 = .int .i64 (s : Int) ∧ v6 = .slice a cur c ∧ AllSt w3 pc pt rb sp a cur c (ways.take cur) wj ∧ DfsSt d ways s sp cur) (fun _ v7 _ => 100000 - (intOf v7).toNat)
        case atStart => exact ⟨0, 0, 0, [], none, none, rfl, rfl, S5.out, DfsSt.start d ways⟩
        case round =>
          obtain ⟨s, cur, c, sp, rb, a, rfl, rfl, hst, hdf⟩ := hrel
          have ST := Lib.hid hst
          have DF := Lib.hid hdf
          have hsb := hdf.bound hd64 hN
          have hsi : (s : Int) < 100000 := by omega
          have AE : Hid (Calls Try.prog 10 #[.pointer (some ⟨pc, 0, none⟩)] wr fun e w' => e = .returned (.bool (endB sp)) ∧ Ext wr w') := (c_atEnd pc pt _ rb sp wr hst.cur).mono fun e w' ⟨r1, q, r2⟩ => ⟨r1, by rw [r2]; exact ext_drewN (Below.refl _ _) q⟩
          have TVr : Hid (∀ W, Ext wr W → TrieV W pt d ways) := fun W hW => TV.out.ext (ext_trans ST.out.ext hW)
          rcases hdf.inv with ⟨rfl, rfl, rfl⟩ | ⟨pre, f, t, A, B, rfl, hc, hcur, hp⟩
          · rw [endB_nil] at AE
            by_cases hop : 0 < d ∧ 0 < ways.length
            · have OP : Hid (∀ W, Ext wr W → Calls Try.prog 14 #[.pointer (some ⟨pc, 0, none⟩)] W (OpenPost w3.heap.size pc pt rb [] (0, wid ways 0 ways.length) W)) := fun W hW => c_open_nil pc pt _ d ways rb W (ST.out.cur.ext hW) (TVr.out W hW) hop.1 hop.2
              have DN := Lib.hid (DfsSt.first hop.1 hop.2)
              clear hst hdf hop
              go_wp2_with (first
                | (go_at_call 10; (with_reducible refine AE.out.mono ?_); rintro e w6 ⟨rfl, E6⟩)
                | (go_at_call 14; (with_reducible refine (OP.out _ E6).mono ?_); rintro e w7 ⟨rfl, g7, c7, b7, _⟩))
              go_roundw
              case rel => exact ⟨1, 0, c, _, _, a, by go_num, rfl, (ST.out.keep E6).move c7 b7, DN.out⟩
              case measure => simp [intOf]
            · have hm : mayOpen d ways [] = false := by
                unfold mayOpen
                rw [endB_nil]
                rcases Nat.eq_zero_or_pos d with e | e
                · have e2 : decide (([] : List (Nat × Nat)).length = d) = true := by simp [e]
                  rw [e2]
                  rfl
                · have e2 : decide (ways.length = 0) = true := decide_eq_true (by omega)
                  rw [e2, Bool.not_true, Bool.and_false]
              have OP : Hid (∀ W, Ext wr W → Calls Try.prog 14 #[.pointer (some ⟨pc, 0, none⟩)] W fun e w' => e = .returned (.bool false) ∧ Ext wr w') := fun W hW => (c_open_no pc pt _ d ways rb [] W (ST.out.cur.ext hW) (TVr.out W hW) hm).mono fun e w' ⟨r1, r2⟩ => ⟨r1, ext_trans hW r2⟩
              have AT : Hid (∀ W, Ext wr W → Calls Try.prog 12 #[.pointer (some ⟨pc, 0, none⟩)] W fun e w' => e = .returned (.int .i64 0) ∧ w' = W) := fun W hW => c_at pc pt _ rb [] W (ST.out.cur.ext hW)
              have FIN : Hid ((0 < d ∧ ways.take 0 = ways) ∨ (d = 0 ∧ ways.take 0 = [])) := by
                rcases Nat.eq_zero_or_pos d with h | h
                · exact .inr ⟨h, rfl⟩
                · refine .inl ⟨h, ?_⟩
                  have : ways = [] := List.eq_nil_of_length_eq_zero (by omega)
                  rw [this]
                  rfl
              clear hst hdf hop hm
              go_wp2_with (first
                | (go_at_call 10; (with_reducible refine AE.out.mono ?_); rintro e w6 ⟨rfl, E6⟩)
                | (go_at_call 14; (with_reducible refine (OP.out _ E6).mono ?_); rintro e w7 ⟨rfl, E7⟩)
                | (go_at_call 12; (with_reducible refine (AT.out _ E7).mono ?_); rintro e w8 ⟨rfl, hw8⟩; obtain rfl := hw8.symm))
              go_meet
              exact ⟨a, 0, c, ways.take 0, rb, [], rfl, ST.out.keep E7, FIN.out⟩
          · obtain ⟨g, rfl⟩ : ∃ g, rb = some g := by
              obtain ⟨g, _, e, _⟩ := hst.cur.last
              exact ⟨g, e⟩
            rw [endB_snoc] at AE
            have F := hc.facts HW.out pre f t rfl
            have FF := Lib.hid F
            have wbt := wid_mono ways pre.length F.seg.top
            have wle := wid_le ways pre.length ways.length
            have htm : t ≤ 400 := by have := F.top; omega
            by_cases hft : f = t
            · subst hft
              rw [decide_eq_true rfl] at AE
              have UP : Hid (∀ W, Ext wr W → Calls Try.prog 11 #[.pointer (some ⟨pc, 0, none⟩)] W fun e w' => e = .returned (.bool true) ∧ CurV w' w3.heap.size pc pt (some g) pre ∧ ButS (CurB pc (some g)) W w') := fun W hW => c_up pc pt _ g pre f f W (ST.out.cur.ext hW)
              have AT : Hid (∀ W, CurV W w3.heap.size pc pt (some g) pre → Calls Try.prog 12 #[.pointer (some ⟨pc, 0, none⟩)] W fun e w' => e = .returned (.int .i64 (pre.length : Nat)) ∧ w' = W) := fun W hW => c_at pc pt _ (some g) pre W hW
              rcases pre.eq_nil_or_concat with rfl | ⟨pre0, ⟨f0, t0⟩, e⟩
              · have FIN : Hid ((0 < d ∧ ways.take cur = ways) ∨ (d = 0 ∧ ways.take cur = [])) := by
                  refine .inl ⟨by have := F.dep; omega, ?_⟩
                  rw [DfsSt.all hc hcur]
                  exact List.take_length
                rw [List.length_nil] at AT
                clear hst hdf hc hcur hp F wbt wle
                go_wp2_with (first
                  | (go_at_call 10; (with_reducible refine AE.out.mono ?_); rintro e w6 ⟨rfl, E6⟩)
                  | (go_at_call 11; (with_reducible refine (UP.out _ E6).mono ?_); rintro e w7 ⟨rfl, c7, b7⟩)
                  | (go_at_call 12; (with_reducible refine (AT.out _ c7).mono ?_); rintro e w8 ⟨rfl, hw8⟩; obtain rfl := hw8.symm))
                go_meet
                exact ⟨a, cur, c, ways.take cur, _, _, rfl, (ST.out.keep E6).move c7 b7, FIN.out⟩
              · rw [List.concat_eq_append] at e
                subst e
                obtain ⟨DN, hlt0⟩ := DfsSt.up HW.out hc hcur hp
                have DNh := Lib.hid DN
                have wb0 : t0 ≤ 400 := by
                  rcases hc.pop (pre0 ++ [(f0, t0)]) (f, f) rfl with e | ⟨pre1, f1, t1, A0, B0, e, _, h0, _⟩
                  · simp at e
                  · obtain ⟨rfl, e2⟩ := snoc_inj e
                    cases e2
                    have F0 := h0.facts HW.out pre0 f0 t0 rfl
                    have q1 := F0.top
                    have q2 := wid_mono ways pre0.length F0.seg.top
                    have q3 := wid_le ways pre0.length ways.length
                    omega
                have NX : Hid (∀ W, CurV W w3.heap.size pc pt (some g) (pre0 ++ [(f0, t0)]) → Calls Try.prog 13 #[.pointer (some ⟨pc, 0, none⟩)] W fun e w' => e = .returned (.bool (!decide (f0 + 1 = t0))) ∧ CurV w' w3.heap.size pc pt (some g) (pre0 ++ [(f0 + 1, t0)]) ∧ ButS (CurB pc (some g)) W w') := fun W hW => c_next pc pt _ g pre0 f0 t0 W hW hlt0 (by omega)
                obtain ⟨k, hk⟩ : ∃ k, (pre0 ++ [(f0, t0)]).length = k + 1 := ⟨pre0.length, by simp⟩
                rw [hk] at AT
                have q1 : (((k + 1 : Nat) : Int) == 0) = false := beq_eq_false_iff_ne.2 (by omega)
                have q2 : ((k : Int) + 1 == 0) = false := beq_eq_false_iff_ne.2 (by omega)
                clear hst hdf hc hcur hp F wbt wle DN hk
                go_wp2_with (first
                  | (go_at_call 10; (with_reducible refine AE.out.mono ?_); rintro e w6 ⟨rfl, E6⟩)
                  | (go_at_call 11; (with_reducible refine (UP.out _ E6).mono ?_); rintro e w7 ⟨rfl, c7, b7⟩)
                  | (go_at_call 12; (with_reducible refine (AT.out _ c7).mono ?_); rintro e w8 ⟨rfl, hw8⟩; obtain rfl := hw8.symm)
                  | (go_at_call 13; (with_reducible refine (NX.out _ c7).mono ?_); rintro e w9 ⟨rfl, c9, b9⟩))
                go_roundw
                case rel => exact ⟨s + 1, cur, c, _, _, a, by go_num, rfl, ((ST.out.keep E6).move c7 b7).move c9 b9, DNh.out⟩
                case measure => simp [intOf]; omega
            · have hlt : f < t := by have := F.le; omega
              rw [decide_eq_false hft] at AE
              by_cases hdp : pre.length + 1 < d
              · have OP : Hid (∀ W, Ext wr W → Calls Try.prog 14 #[.pointer (some ⟨pc, 0, none⟩)] W (OpenPost w3.heap.size pc pt (some g) (pre ++ [(f, t)]) (belowS ways pre.length f) W)) := fun W hW => c_open pc pt _ g d ways pre f t A B W (ST.out.cur.ext hW) (TVr.out W hW) FF.out hlt hdp hd64 (by omega)
                have DN := Lib.hid (DfsSt.down HW.out hc hcur hp hlt hdp)
                clear hst hdf hc hcur hp F wbt wle
                go_wp2_with (first
                  | (go_at_call 10; (with_reducible refine AE.out.mono ?_); rintro e w6 ⟨rfl, E6⟩)
                  | (go_at_call 14; (with_reducible refine (OP.out _ E6).mono ?_); rintro e w7 ⟨rfl, g7, c7, b7, _⟩))
                go_roundw
                case rel => exact ⟨s + 1, cur, c, _, _, a, by go_num, rfl, (ST.out.keep E6).move c7 b7, DN.out⟩
                case measure => simp [intOf]; omega
              · have hdd : d = pre.length + 1 := by have := F.dep; omega
                obtain ⟨o1, o2, o3, o4, o5⟩ := DfsSt.on HW.out hc hcur hp hlt hdd
                have DN := Lib.hid o5
                have hl1 : (pre ++ [(f, t)]).length = pre.length + 1 := by simp
                have hm : mayOpen d ways (pre ++ [(f, t)]) = false := by
                  unfold mayOpen
                  rw [decide_eq_true (show (pre ++ [(f, t)]).length = d by omega)]
                  simp
                have OP : Hid (∀ W, Ext wr W → Calls Try.prog 14 #[.pointer (some ⟨pc, 0, none⟩)] W fun e w' => e = .returned (.bool false) ∧ Ext wr w') := fun W hW => (c_open_no pc pt _ d ways (some g) _ W (ST.out.cur.ext hW) (TVr.out W hW) hm).mono fun e w' ⟨r1, r2⟩ => ⟨r1, ext_trans hW r2⟩
                have AT : Hid (∀ W, Ext wr W → Calls Try.prog 12 #[.pointer (some ⟨pc, 0, none⟩)] W fun e w' => e = .returned (.int .i64 (d : Nat)) ∧ w' = W) := fun W hW => by
                  have := c_at pc pt _ (some g) (pre ++ [(f, t)]) W (ST.out.cur.ext hW)
                  rwa [show (pre ++ [(f, t)]).length = d by omega] at this
                have CN : Hid (∀ W, Ext wr W → Calls Try.prog 15 #[.pointer (some ⟨pc, 0, none⟩)] W fun e w' => e = .returned (.int .i64 1) ∧ Ext wr w') := fun W hW => by
                  have := c_countC pc pt _ g d ways pre f t A B W (ST.out.cur.ext hW) (TVr.out W hW) HW.out FF.out hlt hd64 (by omega)
                  rw [o4] at this
                  exact this.mono fun e w' ⟨r1, r2⟩ => ⟨r1, ext_trans hW r2⟩
                have KS : Hid (∀ W, Ext wr W → Calls Try.prog 16 #[.pointer (some ⟨pc, 0, none⟩)] W fun e w' => ∃ a n c, e = .returned (.slice a n c) ∧ w'.ownsRow w3.heap.size 9 1 (.slice a n c) (wayAt ways cur).length ((wayAt ways cur).map Value.string) ∧ Ext wr w') := fun W hW => by
                  have := c_keys pc pt _ d ways (some g) (pre ++ [(f, t)]) A B W (ST.out.cur.ext hW) (TVr.out W hW) HW.out hc (by rw [endB_snoc]; simp; omega) hd64 (by omega)
                  rw [o3] at this
                  exact this.mono fun e w' ⟨a, n, c, r1, r2, r3, r4⟩ => ⟨a, n, c, r1, by subst r4; exact own_base r2 (Nat.le_trans ST.out.ext.size hW.size), ext_trans hW r3⟩
                have NX : Hid (∀ W, CurV W w3.heap.size pc pt (some g) (pre ++ [(f, t)]) → Calls Try.prog 13 #[.pointer (some ⟨pc, 0, none⟩)] W fun e w' => e = .returned (.bool (!decide (f + 1 = t))) ∧ CurV w' w3.heap.size pc pt (some g) (pre ++ [(f + 1, t)]) ∧ ButS (CurB pc (some g)) W w') := fun W hW => c_next pc pt _ g pre f t W hW hlt (by omega)
                have WA : Hid (ways[cur]? = some (wayAt ways cur)) := (HW.out.at o2).1
                have q1 : ((d : Int) == 0) = false := beq_eq_false_iff_ne.2 (by omega)
                have hcm : cur ≤ 1000000 := by omega
                obtain ⟨rr, hrr⟩ : ∃ rr, wayAt ways cur = rr := ⟨_, rfl⟩
                rw [hrr] at KS WA
                clear hst hdf hc hcur hp F wbt wle hdd o1 o2 o3 o4 o5 hl1 hm hrr
                go_upto_region 23 with (first
                  | (go_at_call 10; (with_reducible refine AE.out.mono ?_); rintro e w6 ⟨rfl, E6⟩)
                  | (go_at_call 14; (with_reducible refine (OP.out _ E6).mono ?_); rintro e w7 ⟨rfl, E7⟩)
                  | (go_at_call 12; (with_reducible refine (AT.out _ E7).mono ?_); rintro e w8 ⟨rfl, hw8⟩; obtain rfl := hw8.symm)
                  | (go_at_call 15; (with_reducible refine (CN.out _ E7).mono ?_); rintro e w9 ⟨rfl, E9⟩))
                go_upto_region 24 with (first
                  | (go_at_call 16; (with_reducible refine (KS.out _ E9).mono ?_); rintro e w10 ⟨a10, n10, c10, rfl, o10, E10⟩; obtain ⟨us, hus, hrs⟩ := (ST.out.keep E10).met; have HUS := Lib.hid hus; have HRS := Lib.hid hrs; have O10 := Lib.hid o10; have hz10 : Hid (w3.heap.size ≤ w10.heap.size) := (Nat.le_trans ST.out.ext.size E10.size); clear hus hrs o10)
                  | (at_builtin; refine wpList_push_row w10 (.slice a10 n10 c10) w3.heap.size (.slice a cur c) cur us HUS.out hcm hz10.out rfl rfl _ _ rfl rfl rfl ?_; intro g11 c11 w11 p1 p2; have S11 := Lib.hid ((ST.out.keep E10).push HUS.out HRS.out O10.out p1 p2); clear p1 p2))
                have N11 := Lib.hid (NX.out _ S11.out.cur)
                go_wp2_with (go_at_call 13; (with_reducible refine N11.out.mono ?_); rintro e w12 ⟨rfl, c12, b12⟩)
                go_roundw
                case rel => exact ⟨s + 1, cur + 1, c11, _, _, _, by go_num, rfl, by rw [take_at WA.out]; exact S11.out.move c12 b12, DN.out⟩
                case measure => simp [intOf]; omega
      case rest =>
        obtain ⟨a, n, c, mets, rb, sp, rfl, hst, hfin⟩ := hcut
        have ST := Lib.hid hst
        have E9 : Ext w wc := ext_trans E3h.out hst.ext
        have x0 := keep hst.ext X0.out
        have x1 := keep hst.ext X1.out
        have x2 := keep hst.ext X2.out
        have DPT : Hid (∀ W, Ext wc W → Calls Try.prog 17 #[.pointer (some ⟨pt, 0, none⟩)] W fun e w' => e = .returned (.int .i64 (d : Nat)) ∧ w' = W) := fun W hW => c_depth pt d ways W (TV.out.ext (ext_trans hst.ext hW))
        have LEN : Hid (∀ W, Ext wc W → Calls Try.prog 18 #[.pointer (some ⟨pt, 0, none⟩)] W fun e w' => e = .returned (.int .i64 (ways.length : Nat)) ∧ w' = W) := fun W hW => c_lenT pt d ways W (TV.out.ext (ext_trans hst.ext hW))
        have KP9 : Hid (∀ W, Ext wc W → Calls Try.prog 19 #[.agg #[.int .i64 ar0, .slice ra rn rc, .slice oa on oc]] W fun e w' => (∃ a c, e = .returned (.slice a (rowsM ar rows).length c)) ∧ Ext W w') := fun W hW => (KP.out ar W HARE.out har64 (ext_trans E9 hW)).mono fun e w' ⟨r1, r2⟩ => ⟨r2, r1⟩
        have CV9 : Hid (∀ W am nm cm, Ext wc W → ItemsAt W am nm ways → nm ≤ 400 → Calls Try.prog 21 #[.agg #[.int .i64 ar0, .slice ra rn rc, .slice oa on oc], .slice am nm cm] W fun e w' => e = .returned (.bool true) ∧ Ext W w') := fun W am nm cm h1 h2 h3 => CV.out ar W am nm cm ways HARE.out har64 HOK.out (ext_trans E9 h1) h2 h3 HMEM.out
        have E9h := Lib.hid E9
        have DR : Ext wc wc.drew := ext_drew (Below.refl _ _)
        rcases hfin with ⟨hd0, rfl⟩ | ⟨rfl, rfl⟩
        · obtain ⟨us, hus, hrs⟩ := hst.met
          have hln := hst.len
          have IT := Lib.hid (hrs.items hus hln)
          subst hln
          have q1 : ((d : Int) == 0) = false := beq_eq_false_iff_ne.2 (by omega)
          clear hst hus hrs KP CV KP9 E9
          go_wp2_with (first
            | (go_at_call 17; (with_reducible refine (DPT.out _ (Below.refl _ _)).mono ?_); rintro e w10 ⟨rfl, hw10⟩; obtain rfl := hw10.symm)
            | (go_at_call 18; (with_reducible refine (LEN.out _ (Below.refl _ _)).mono ?_); rintro e w10 ⟨rfl, hw10⟩; obtain rfl := hw10.symm))
          go_loopw [8] (fun v8 wj => ∃ i : Nat, i ≤ mets.length ∧ v8 = .int .i64 (i : Int) ∧ ∃ q, wj = wc.drewN q) (fun v8 _ => mets.length - (intOf v8).toNat)
          case atStart => exact ⟨0, Nat.zero_le _, rfl, 0, rfl⟩
          case round =>
            obtain ⟨i, hi, rfl, q0, hq0⟩ := hrel
            have er : Ext wc wr := by rw [hq0]; exact ext_drewN (Below.refl _ _) _
            have ER := Lib.hid er
            have Q0 := Lib.hid hq0
            have y0 := keep er x0
            have y1 := keep er x1
            have y2 := keep er x2
            clear hq0
            by_cases hlt : i < mets.length
            · have hlti : (i : Int) < (mets.length : Int) := by omega
              obtain ⟨r, b1, o1, hx, rfl, a5, n5, c5, g1, g2⟩ := (IT.out.keep er).2.at hlt
              have g1 : wr.cell? ⟨b1, o1 + i, none⟩ = some (.slice a5 n5 c5) := by simpa using g1
              have hlen : n5 = on := by
                have e1 := HW.out.len r (List.mem_of_getElem? hx)
                have e2 := g2.2.1
                have e3 := HOL.out
                omega
              subst hlen
              by_cases hi0 : i = 0
              · subst hi0
                rw [Nat.add_zero] at g1
                have u1 : (0 : Int) < (mets.length : Int) := by omega
                have u2 : 0 < mets.length := hlt
                clear hx g2 er
                go_wp2
                go_quiet (fail)
                go_wp2
                go_roundw
                case rel => exact ⟨1, by omega, by go_num, _, by rw [Q0.out, World.drewN_drewN]⟩
                case measure => simp [intOf]; omega
              · obtain ⟨j, rfl⟩ : ∃ j, i = j + 1 := ⟨i - 1, by omega⟩
                obtain ⟨r0, b2, o2, hx0, e2, a6, n6, c6, g3, g4⟩ := (IT.out.keep er).2.at (i := j) (by omega)
                cases e2
                have g3 : wr.cell? ⟨b1, o1 + j, none⟩ = some (.slice a6 n6 c6) := by simpa using g3
                have hcm : cmpRow r0 r = -1 := cmpRow_lt (by
                  obtain ⟨k1, k2⟩ := List.getElem?_eq_some_iff.1 hx0
                  obtain ⟨k3, k4⟩ := List.getElem?_eq_some_iff.1 hx
                  have := List.pairwise_iff_getElem.1 HW.out.rising j (j + 1) k1 k3 (Nat.lt_succ_self j)
                  rwa [k2, k4] at this)
                have CP : Hid (∀ q, Calls Try.prog 20 #[.slice a6 n6 c6, .slice a5 n5 c5] (wr.drewN q) fun e w' => e = .returned (.int .i64 (-1)) ∧ w' = wr.drewN q) := fun q => by
                  have := c_tCompare r0 r a6 n6 c6 a5 n5 c5 (wr.drewN q) (g4.keep (ext_drewN (Below.refl _ _) q)) (g2.keep (ext_drewN (Below.refl _ _) q))
                  rwa [hcm] at this
                have u1 : IntKind.i64.wrap (j : Int) = (j : Int) := by rw [IntKind.wrap_i64]; omega
                have u2 : (j : Int) < (mets.length : Int) := by omega
                have u3 : (j : Int) + 1 < (mets.length : Int) := by omega
                have u4 : (0 : Int) ≤ (j : Int) + 1 := by omega
                have u5 : ((j : Int) + 1).toNat = j + 1 := by omega
                have u6 : (0 : Int) < (j : Int) + 1 := by omega
                clear hx hx0 g2 g4 er hcm hi0
                go_wp2
                go_quiet ((go_at_call 20; exact Calls.quiet_of_same (CP.out _)))
                go_wp2
                go_roundw
                case rel => exact ⟨j + 1 + 1, by omega, by go_num, _, by rw [Q0.out, World.drewN_drewN]⟩
                case measure => simp [intOf]; omega
            · obtain rfl : i = mets.length := by omega
              have hge : ¬ (mets.length : Int) < (mets.length : Int) := by omega
              have C9 := Lib.hid (CV9.out wr a mets.length c ER.out (IT.out.keep ER.out) hN)
              clear er
              go_wp2_with (go_at_call 21; (with_reducible refine C9.out.mono ?_); rintro e w10 ⟨rfl, E10⟩)
              go_returns
              exact ⟨rfl, ext_trans E9h.out (ext_trans ER.out E10)⟩
        · have hn0 : n = 0 := hst.len
          subst hn0
          have ho0 : os = [] := List.eq_nil_of_length_eq_zero HD.out
          rcases ways_none HW.out ho0 HMEM.out with ⟨z1, z2⟩ | ⟨z1, z2⟩
          · rw [z1] at LEN
            rw [z2] at KP9
            clear hst KP CV CV9 E9 z1 z2 ho0
            go_wp2_with (go_at_call 17; (with_reducible refine (DPT.out _ (Below.refl _ _)).mono ?_); rintro e w10 ⟨rfl, hw10⟩; obtain rfl := hw10.symm)
            go_region_held3 (fun w' => w'.cell? ⟨w.heap.size, 0, none⟩ = some (.int .i64 ar0) ∧ w'.cell? ⟨w.heap.size, 1, none⟩ = some (.slice ra rn rc) ∧ w'.cell? ⟨w.heap.size, 2, none⟩ = some (.slice oa on oc))
              (first | exact ⟨x0, x1, x2⟩ | exact ⟨keep E11 x0, keep E11 x1, keep E11 x2⟩ | fail)
              (first
                | (go_at_call 18; (with_reducible refine (LEN.out _ DR).mono ?_); rintro e w10 ⟨rfl, hw10⟩; obtain rfl := hw10.symm)
                | (go_at_call 18; (with_reducible refine (LEN.out _ (ext_trans DR E11)).mono ?_); rintro e w10 ⟨rfl, hw10⟩; obtain rfl := hw10.symm)
                | (go_at_call 19; (with_reducible refine (KP9.out _ DR).mono ?_); rintro e w11 ⟨⟨a11, c11, rfl⟩, E11⟩)
                | fail)
            all_goals
              go_wp2
              go_returns
              exact ⟨rfl, ext_trans E9h.out (ext_trans DR E11)⟩
          · have z3 : decide (0 < (rowsM ar rows).length) = true := decide_eq_true z2
            have z4 : (0 : Int) < ((rowsM ar rows).length : Int) := by omega
            rw [z1] at LEN
            obtain ⟨R, hR⟩ : ∃ R, (rowsM ar rows).length = R := ⟨_, rfl⟩
            rw [hR] at KP9 z3 z4
            clear hst KP CV CV9 E9 z1 z2 ho0 hR
            go_wp2_with (go_at_call 17; (with_reducible refine (DPT.out _ (Below.refl _ _)).mono ?_); rintro e w10 ⟨rfl, hw10⟩; obtain rfl := hw10.symm)
            go_region_held3 (fun w' => w'.cell? ⟨w.heap.size, 0, none⟩ = some (.int .i64 ar0) ∧ w'.cell? ⟨w.heap.size, 1, none⟩ = some (.slice ra rn rc) ∧ w'.cell? ⟨w.heap.size, 2, none⟩ = some (.slice oa on oc))
              (first | exact ⟨x0, x1, x2⟩ | exact ⟨keep E11 x0, keep E11 x1, keep E11 x2⟩ | fail)
              (first
                | (go_at_call 18; (with_reducible refine (LEN.out _ DR).mono ?_); rintro e w10 ⟨rfl, hw10⟩; obtain rfl := hw10.symm)
                | (go_at_call 18; (with_reducible refine (LEN.out _ (ext_trans DR E11)).mono ?_); rintro e w10 ⟨rfl, hw10⟩; obtain rfl := hw10.symm)
                | (go_at_call 19; (with_reducible refine (KP9.out _ DR).mono ?_); rintro e w11 ⟨⟨a11, c11, rfl⟩, E11⟩)
                | fail)
            all_goals
              go_wp2
              go_returns
              exact ⟨rfl, ext_trans E9h.out (ext_trans DR E11)⟩
end Go.Proofs.Ythjpfplebbnbpaa
