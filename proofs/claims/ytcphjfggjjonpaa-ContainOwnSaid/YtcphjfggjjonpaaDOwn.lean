/- The walk of the document's own: a rule in new memory. -/
import Derived.Test.YtcphjfggjjonpaaNewM
namespace Go.Proofs.Ytcphjfggjjonpaa
open Go.ChangeShapes Go.WideShapes Go.ChangeAt Go.RowKit
/-- What sizes a rule that lies in memory has. -/
structure RuleB (r : Rule) : Prop where
  pred : r.head.pred.size ≤ maxLen
  nh : r.head.terms.length ≤ 5864062014634
  texts : ∀ t ∈ r.head.terms, t.text.size ≤ maxLen
  nb : r.body.length ≤ 1353245080303
  lits : ∀ l ∈ r.body, l.atom.terms.length ≤ 5864062014634 ∧ (∀ t ∈ l.atom.terms, t.text.size ≤ maxLen) ∧ l.atom.pred.size ≤ maxLen ∧ l.left.text.size ≤ maxLen ∧ l.right.text.size ≤ maxLen
theorem RuleB.of {w : World} {r : Rule} {ah : Option Addr} {nh ch : Nat} {ab : Option Addr} {nb cb : Nat} (h : RuleV w r ah nh ch ab nb cb) : RuleB r := by
  refine ⟨h.pred, by rw [h.terms.2.1]; exact h.terms.1, h.terms.texts, by rw [h.body.2.1]; exact h.body.1, fun l hl => ?_⟩
  obtain ⟨i, hi⟩ := List.mem_iff_getElem?.1 hl
  obtain ⟨_, _, _, a, n, c, _, _, _, _, _, _, _, _, ht, _, h3⟩ := h.body.2.2 i l hi
  exact ⟨by rw [ht.2.1]; exact ht.1, ht.texts, h3⟩
theorem own_n {w : World} {base n : Nat} {a : Option Addr} {m c : Nat} {ts : List Term} (h : w.ownsRow base 37 2 (.slice a m c) n (flatT ts)) : ts.length = n := by
  have := h.1
  rw [flatT_len] at this
  omega
theorem NewR.rule {w : World} {lo : Nat} {x : Nat → Prop} {r : Rule} {ah : Option Addr} {nh ch : Nat} {ab : Option Addr} {nb cb : Nat} (h : NewR w lo x r ah nh ch ab nb cb) (hb : RuleB r) : RuleV w r ah nh ch ab nb cb := by
  obtain ⟨ps, h1, h2, h3, _, _⟩ := h.body
  refine ⟨hb.pred, own_termsO h.head (by rw [← own_n h.head]; exact hb.nh) hb.texts, ?_, cap_of_own h.head, cap_of_own h2⟩
  have hl : nb ≤ 1353245080303 := by
    have h4 := (RowC.of h2).1
    have h5 : (ps.map (·.1)).length = ps.length := List.length_map _
    rw [h1] at h5
    have := hb.nb
    omega
  have h5 := (RowC.of h2).lits hl (fun p hp => by
    have hm := hb.lits p.1 (by rw [← h1]; exact List.mem_map.2 ⟨p, hp, rfl⟩)
    have h6 : w.ownsRow lo 37 2 (.slice p.2.1 p.2.2.1 p.2.2.2) p.2.2.1 (flatT p.1.atom.terms) := h3 p hp
    exact ⟨own_termsO h6 (by rw [← own_n h6]; exact hm.1) hm.2.1, cap_of_own h6, hm.2.2⟩)
  rw [h1] at h5
  exact h5
/-- Before round k: of the first k literals copies lie in the row v. -/
structure DOwnIn (W : World) (ls : List Lit) (k : Nat) (v : Value) (w : World) : Prop where
  old : Ext W w
  row : ∃ ps : List LitP, ps.map (·.1) = ls.take k ∧ w.ownsRow W.heap.size 43 8 v k (flatP ps) ∧ (∀ p ∈ ps, w.ownsRow W.heap.size 37 2 (slP p) p.2.2.1 (flatT p.1.atom.terms)) ∧ Apart (ps.map slP)
theorem litVals_one (p : LitP) : ∀ u ∈ valsP p, u.oneCell' = true := fun u hu => flatP_one [p] u (by simpa [flatP] using hu)
theorem flatP_snoc (ps : List LitP) (p : LitP) : flatP (ps ++ [p]) = flatP ps ++ valsP p := by simp [flatP]
theorem up_ext {w w' : World} {base n size : Nat} {e : TypeId} {v : Value} {xs : List Value} (h : w.ownsRow base e size v n xs) (k : Ext w w') : w'.ownsRow base e size v n xs := h.kept (gb_of_ext k none) (by cases v.ownBlock <;> simp)
theorem far_of {W3 w4 : World} {o : Obj} {b2 n2 s2 : Nat} {u : Value} {x2 : List Value} (h2 : W3.ownsRow b2 43 s2 u n2 x2) (g4 : (W3.alloc o).grownBy w4 u.ownBlock) {v : Value} {b n : Nat} {xs : List Value} (hh : W3.ownsRow b 37 2 v n xs) : w4.ownsRow b 37 2 v n xs :=
  (hh.alloc o).kept g4 (own_apart (hh.alloc o) (h2.alloc o) (by decide))
set_option maxRecDepth 20000 in
set_option maxHeartbeats 4000000 in
theorem c_dOwn (r : Rule) (ah : Option Addr) (nh ch : Nat) (ab : Option Addr) (nb cb : Nat) (w : World) (hr : RuleV w r ah nh ch ab nb cb) :
    Calls Try.prog 53 #[.agg #[.string r.head.pred, .slice ah nh ch, .slice ab nb cb]] w fun e w' => ∃ ah' ch' ab' cb', e = .returned (.agg #[.string r.head.pred, .slice ah' nh ch', .slice ab' nb cb']) ∧ RuleV w' r ah' nh ch' ab' nb cb' ∧ NewR w' (w.heap.size + 2) (fun _ => False) r ah' nh ch' ab' nb cb' ∧ Ext w w' := by
  have HR := Lib.hid hr
  have HN := Lib.hid hr.body.1
  have HL := Lib.hid hr.body.2.1
  clear hr
  obtain ⟨i0, hi, hz0, hz1, hz2⟩ := info_parts info_lit
  obtain ⟨j0, hj, hy0, hy1, hy2⟩ := info_parts info_term
  go_enter Try.func53, Try.ntmps53
  go_upto_region 1 with (fail)
  refine wp_gen (fun W hW => ?_)
  have hb0 : Ext w W := by rw [hW]; go_grown
  have x0 : W.cell? ⟨w.heap.size, 0, none⟩ = some (.string r.head.pred) := by rw [hW]; go_simp
  have x1 : W.cell? ⟨w.heap.size, 1, none⟩ = some (.slice ah nh ch) := by rw [hW]; go_simp
  have x2 : W.cell? ⟨w.heap.size, 2, none⟩ = some (.slice ab nb cb) := by rw [hW]; go_simp
  have z0 : W.cell? ⟨w.heap.size + 1, 0, none⟩ = some (.string ⟨#[]⟩) := by rw [hW]; go_simp
  have z1 : W.cell? ⟨w.heap.size + 1, 1, none⟩ = some (.slice none 0 0) := by rw [hW]; go_simp
  have z2 : W.cell? ⟨w.heap.size + 1, 2, none⟩ = some (.slice none 0 0) := by rw [hW]; go_simp
  have f1 : W.frozen? ⟨w.heap.size, 1, none⟩ = false := by rw [hW]; go_simp
  have f2 : W.frozen? ⟨w.heap.size, 2, none⟩ = false := by rw [hW]; go_simp
  have q0 : W.frozen? ⟨w.heap.size + 1, 0, none⟩ = false := by rw [hW]; go_simp
  have q1 : W.frozen? ⟨w.heap.size + 1, 1, none⟩ = false := by rw [hW]; go_simp
  have q2 : W.frozen? ⟨w.heap.size + 1, 2, none⟩ = false := by rw [hW]; go_simp
  have hz : w.heap.size + 1 < W.heap.size := World.block_lt_of_cell? _ _ z0
  have hz' : w.heap.size < W.heap.size := by omega
  clear hW
  have HT := Lib.hid (HR.out.terms.keep hb0)
  have hnh := HR.out.terms.1
  have H1 : Hid (0 + nh ≤ maxLen) := by show _ ≤ _; unfold maxLen; omega
  have H2 : Hid ((0 + nh) * 24 ≤ 140737488355328) := by show _ ≤ _; omega
  have H3 : Hid ((flatT r.head.terms).length = nh * 2) := by show _ = _; rw [flatT_len, HR.out.terms.2.1]
  go_upto_region 3 with (at_builtin; go_loud (refine wpList_append_any rfl _ _ 22 rfl W.heap.size 37 j0 (.agg #[.int .i64 0, .string ⟨#[]⟩]) 2 24 Try.underlying22 hj hy0 hy1 hy2 rfl (by decide) _ _ _ rfl (World.ownsRow_nil _ _ _ _) ah nh ch (flatT r.head.terms) rfl HR.out.hcap.2 H3.out (fun ad e => flatT_cell HT.out e) (flatT_one _) H1.out H2.out (Nat.le_refl _) ?_); intro v1 w1 own1 g1; have hb1 := ext_ownB (Below.refl _ W : Ext W W) g1 (by intro g e; cases e); have a0 := keep hb1 x0; have a1 := keep hb1 x1; have a2 := keep hb1 x2; have k1 := (hb1.frozen (p := ⟨w.heap.size, 1, none⟩) hz').trans f1; rw [Nat.zero_add, List.nil_append] at own1; obtain ⟨ah', ch', rfl, _⟩ := own_form own1)
  refine wp_gen (fun W1 hW1 => ?_)
  have hb2 : Ext w W1 := by rw [hW1]; exact ext_set (ext_trans hb0 hb1) (Nat.le_refl _) _
  have hown2 : W1.ownsRow W.heap.size 37 2 (.slice ah' nh ch') nh (flatT r.head.terms) := by rw [hW1]; exact ownsRow_setCell_below own1 (a := ⟨w.heap.size, 1, none⟩) hz' _
  have c0 : W1.cell? ⟨w.heap.size, 0, none⟩ = some (.string r.head.pred) := by rw [hW1, World.cell?_setCell_other _ _ _ _ (by simp)]; exact a0
  have c1 : W1.cell? ⟨w.heap.size, 1, none⟩ = some (.slice ah' nh ch') := by rw [hW1]; exact World.cell?_setCell_same _ _ _ a1
  have c2 : W1.cell? ⟨w.heap.size, 2, none⟩ = some (.slice ab nb cb) := by rw [hW1, World.cell?_setCell_other _ _ _ _ (by simp)]; exact a2
  have y0 : W1.cell? ⟨w.heap.size + 1, 0, none⟩ = some (.string ⟨#[]⟩) := by rw [hW1, World.cell?_setCell_other _ _ _ _ (by simp)]; exact keep hb1 z0
  have y1 : W1.cell? ⟨w.heap.size + 1, 1, none⟩ = some (.slice none 0 0) := by rw [hW1, World.cell?_setCell_other _ _ _ _ (by simp)]; exact keep hb1 z1
  have y2 : W1.cell? ⟨w.heap.size + 1, 2, none⟩ = some (.slice none 0 0) := by rw [hW1, World.cell?_setCell_other _ _ _ _ (by simp)]; exact keep hb1 z2
  have g2 : W1.frozen? ⟨w.heap.size, 2, none⟩ = false := by rw [hW1, World.frozen?_setCell]; exact (hb1.frozen (p := ⟨w.heap.size, 2, none⟩) hz').trans f2
  have p0 : W1.frozen? ⟨w.heap.size + 1, 0, none⟩ = false := by rw [hW1, World.frozen?_setCell]; exact (hb1.frozen (p := ⟨w.heap.size + 1, 0, none⟩) hz).trans q0
  have p1 : W1.frozen? ⟨w.heap.size + 1, 1, none⟩ = false := by rw [hW1, World.frozen?_setCell]; exact (hb1.frozen (p := ⟨w.heap.size + 1, 1, none⟩) hz).trans q1
  have p2 : W1.frozen? ⟨w.heap.size + 1, 2, none⟩ = false := by rw [hW1, World.frozen?_setCell]; exact (hb1.frozen (p := ⟨w.heap.size + 1, 2, none⟩) hz).trans q2
  have hzW : w.heap.size + 1 < W1.heap.size := World.block_lt_of_cell? _ _ y0
  have hWW : W.heap.size ≤ W1.heap.size := by rw [hW1]; simpa using hb1.size
  have HOW := Lib.hid hown2
  clear hW1 own1 hown2 a0 a1 a2 k1 z0 z1 z2 f1 f2 q0 q1 q2 x0 x1 x2 hb1 HT H1 H2 H3
  go_wp2
  go_loopw [4, 5] (fun v i wj => ∃ k, k ≤ nb ∧ i = .int .i64 (k : Int) ∧ DOwnIn W1 r.body k v wj) (fun _ i _ => nb - (intOf i).toNat)
  case atStart => exact ⟨0, by omega, rfl, ⟨Below.refl _ _, [], rfl, World.ownsRow_nil _ _ _ _, fun _ h => (by cases h), List.Pairwise.nil⟩⟩
  case round =>
    obtain ⟨k, hk, rfl, hs⟩ := hrel
    have y2b := keep hs.old c2
    have HS := Lib.hid hs
    clear hs
    by_cases hlt : k < nb
    · obtain ⟨l, bt, off, hx, rfl, a, n, cap, h0, h1, h2, h3, h4, h5, h6, h7, ht, hcap, hp, hl, hr⟩ := (HR.out.body).2.at hlt
      have HX := Lib.hid hx
      have HC := Lib.hid hcap
      have hwr := ext_trans hb2 HS.out.old
      have e0 := keep hwr h0
      have e1 := keep hwr h1
      have e2 := keep hwr h2
      have e3 := keep hwr h3
      have e4 := keep hwr h4
      have e5 := keep hwr h5
      have e6 := keep hwr h6
      have e7 := keep hwr h7
      have HT := Lib.hid ht
      have hki : (k : Int) < (nb : Int) := by omega
      have hln := ht.1
      clear hx h0 h1 h2 h3 h4 h5 h6 h7 ht hcap
      go_upto_region 8 with (fail)
      refine wp_gen (fun Wi hWi => ?_)
      have hin : Ext wr Wi := by rw [hWi]; exact ext_alloc (Below.refl _ _) _
      have d0 : Wi.cell? ⟨wr.heap.size, 0, none⟩ = some (.int .i64 l.kind) := by rw [hWi]; go_simp
      have d1 : Wi.cell? ⟨wr.heap.size, 1, none⟩ = some (.string l.atom.pred) := by rw [hWi]; go_simp
      have d2 : Wi.cell? ⟨wr.heap.size, 2, none⟩ = some (.slice a n cap) := by rw [hWi]; go_simp
      have d3 : Wi.cell? ⟨wr.heap.size, 3, none⟩ = some (.int .i64 l.op) := by rw [hWi]; go_simp
      have d4 : Wi.cell? ⟨wr.heap.size, 4, none⟩ = some (.int .i64 l.left.kind) := by rw [hWi]; go_simp
      have d5 : Wi.cell? ⟨wr.heap.size, 5, none⟩ = some (.string l.left.text) := by rw [hWi]; go_simp
      have d6 : Wi.cell? ⟨wr.heap.size, 6, none⟩ = some (.int .i64 l.right.kind) := by rw [hWi]; go_simp
      have d7 : Wi.cell? ⟨wr.heap.size, 7, none⟩ = some (.string l.right.text) := by rw [hWi]; go_simp
      have v2 : Wi.frozen? ⟨wr.heap.size, 2, none⟩ = false := by rw [hWi]; go_simp
      have hsi : wr.heap.size < Wi.heap.size := World.block_lt_of_cell? _ _ d0
      clear hWi e0 e1 e2 e3 e4 e5 e6 e7
      have HTi := Lib.hid (HT.out.keep (ext_trans hwr hin))
      have H1 : Hid (0 + n ≤ maxLen) := by show _ ≤ _; unfold maxLen; omega
      have H2 : Hid ((0 + n) * 24 ≤ 140737488355328) := by show _ ≤ _; omega
      have H3 : Hid ((flatT l.atom.terms).length = n * 2) := by show _ = _; rw [flatT_len, HT.out.2.1]
      go_upto_region 10 with (at_builtin; go_loud (refine wpList_append_any rfl _ _ 22 rfl Wi.heap.size 37 j0 (.agg #[.int .i64 0, .string ⟨#[]⟩]) 2 24 Try.underlying22 hj hy0 hy1 hy2 rfl (by decide) _ _ _ rfl (World.ownsRow_nil _ _ _ _) a n cap (flatT l.atom.terms) rfl HC.out.2 H3.out (fun ad e => flatT_cell HTi.out e) (flatT_one _) H1.out H2.out (Nat.le_refl _) ?_); intro v3 w3 own3 g3; have hb3 := ext_ownB (Below.refl _ Wi : Ext Wi Wi) g3 (by intro g e; cases e); have m2 := keep hb3 d2; have k3 := (hb3.frozen (p := ⟨wr.heap.size, 2, none⟩) hsi).trans v2; rw [Nat.zero_add, List.nil_append] at own3; obtain ⟨ax, cx, rfl, _⟩ := own_form own3)
      refine wp_gen (fun W3 hW3 => ?_)
      have hw3 : Ext wr W3 := by rw [hW3]; exact ext_set (ext_trans hin hb3) (Nat.le_refl _) _
      have hown4 : W3.ownsRow Wi.heap.size 37 2 (.slice ax n cx) n (flatT l.atom.terms) := by rw [hW3]; exact ownsRow_setCell_below own3 (a := ⟨wr.heap.size, 2, none⟩) hsi _
      have b2 : W3.cell? ⟨wr.heap.size, 2, none⟩ = some (.slice ax n cx) := by rw [hW3]; exact World.cell?_setCell_same _ _ _ m2
      have b0 : W3.cell? ⟨wr.heap.size, 0, none⟩ = some (.int .i64 l.kind) := by rw [hW3, World.cell?_setCell_other _ _ _ _ (by simp)]; exact keep hb3 d0
      have b1 : W3.cell? ⟨wr.heap.size, 1, none⟩ = some (.string l.atom.pred) := by rw [hW3, World.cell?_setCell_other _ _ _ _ (by simp)]; exact keep hb3 d1
      have b3 : W3.cell? ⟨wr.heap.size, 3, none⟩ = some (.int .i64 l.op) := by rw [hW3, World.cell?_setCell_other _ _ _ _ (by simp)]; exact keep hb3 d3
      have b4 : W3.cell? ⟨wr.heap.size, 4, none⟩ = some (.int .i64 l.left.kind) := by rw [hW3, World.cell?_setCell_other _ _ _ _ (by simp)]; exact keep hb3 d4
      have b5 : W3.cell? ⟨wr.heap.size, 5, none⟩ = some (.string l.left.text) := by rw [hW3, World.cell?_setCell_other _ _ _ _ (by simp)]; exact keep hb3 d5
      have b6 : W3.cell? ⟨wr.heap.size, 6, none⟩ = some (.int .i64 l.right.kind) := by rw [hW3, World.cell?_setCell_other _ _ _ _ (by simp)]; exact keep hb3 d6
      have b7 : W3.cell? ⟨wr.heap.size, 7, none⟩ = some (.string l.right.text) := by rw [hW3, World.cell?_setCell_other _ _ _ _ (by simp)]; exact keep hb3 d7
      have HIS := Lib.hid hin.size
      clear hW3 own3 d0 d1 d2 d3 d4 d5 d6 d7 v2 k3 m2 hb3 H1 H2 H3 HTi
      obtain ⟨hold, ps, hps, hrow, hts, hap⟩ := HS.out
      have hrow3 := up_ext hrow hw3
      have HOLD := Lib.hid hold
      have HPS := Lib.hid hps
      have HTS := Lib.hid hts
      have HAP := Lib.hid hap
      have HO4 := Lib.hid hown4
      have HROW := Lib.hid hrow
      have hk1 : k + 1 ≤ maxLen := by have := HN.out; unfold maxLen; omega
      have hk2 : (k + 1) * 104 ≤ 140737488355328 := by have := HN.out; omega
      have K1 := Lib.hid hk1
      have K2 := Lib.hid hk2
      clear hk1 hk2 hps hts hap hown4 hrow
      have hnn := HN.out
      have hsz3 : W1.heap.size ≤ W3.heap.size := (ext_trans hold hw3).size
      clear hold
      go_wp2_with (at_builtin; go_loud (refine wpList_append_any rfl _ _ 25 rfl W1.heap.size 43 i0 (.agg #[.int .i64 0, .string ⟨#[]⟩, .slice none 0 0, .int .i64 0, .int .i64 0, .string ⟨#[]⟩, .int .i64 0, .string ⟨#[]⟩]) 8 104 Try.underlying25 hi hz0 hz1 hz2 rfl (by decide) _ _ _ rfl (hrow3.alloc _) (some ⟨W3.heap.size, 0, none⟩) 1 1 (valsP (l, ax, n, cx)) rfl (by intro h; cases h) rfl (cells8_at _ _ _ _ _ _ _ _ _ rfl) (litVals_one _) K1.out K2.out (size_alloc_le hsz3) ?_); intro v4 w4 own4 g4)
      have far : ∀ {v : Value} {n : Nat} {xs : List Value}, W3.ownsRow W1.heap.size 37 2 v n xs → w4.ownsRow W1.heap.size 37 2 v n xs := fun hh => far_of hrow3 g4 hh
      have lo4 : W1.heap.size ≤ Wi.heap.size := Nat.le_trans HOLD.out.size HIS.out
      have HFIN := Lib.hid (show DOwnIn W1 r.body (k + 1) v4 w4 from by
        refine ⟨ext_ownB (ext_alloc (ext_trans HOLD.out hw3) _) g4 (fun g e => (HROW.out.lt g e).1), ps ++ [(l, ax, n, cx)], ?_, ?_, ?_, ?_⟩
        · rw [take_at HX.out, List.map_append, HPS.out]; rfl
        · rw [flatP_snoc]; exact own4
        · intro p hp
          rcases List.mem_append.1 hp with hp | hp
          · exact far (up_ext (HTS.out p hp) hw3)
          · cases List.mem_singleton.1 hp
            exact far (own_base HO4.out lo4)
        · rw [List.map_append]
          refine List.pairwise_append.2 ⟨HAP.out, List.pairwise_singleton _ _, ?_⟩
          intro x hx y hy
          simp only [List.map_cons, List.map_nil, List.mem_singleton] at hy
          subst hy
          obtain ⟨p, hp, rfl⟩ := List.mem_map.1 hx
          cases hv : (slP p).ownBlock with
          | none => exact .inl rfl
          | some b =>
            refine .inr fun e2 => ?_
            have l1 := ((HTS.out p hp).lt b hv).2
            have l2 := (HO4.out.lt b e2.symm).1
            have := hsi
            omega)
      clear far own4 g4
      go_roundw
      case rel => exact ⟨k + 1, by omega, by go_num, HFIN.out⟩
      case measure => simp [intOf]; omega
    · obtain rfl : k = nb := by omega
      have t0 := keep HS.out.old y0
      have t1 := keep HS.out.old y1
      have t2 := keep HS.out.old y2
      have r0 := keep HS.out.old c0
      have r1 := keep HS.out.old c1
      have hzv : w.heap.size < W1.heap.size := Nat.lt_of_succ_lt hzW
      have n2 := (HS.out.old.frozen (p := ⟨w.heap.size, 2, none⟩) hzv).trans g2
      have n3 := (HS.out.old.frozen (p := ⟨w.heap.size + 1, 0, none⟩) hzW).trans p0
      have n4 := (HS.out.old.frozen (p := ⟨w.heap.size + 1, 1, none⟩) hzW).trans p1
      have n5 := (HS.out.old.frozen (p := ⟨w.heap.size + 1, 2, none⟩) hzW).trans p2
      obtain ⟨_, ps, hps, hrow, hts, hap⟩ := HS.out
      obtain ⟨a5, c5, rfl, _⟩ := own_form hrow
      have hfull : r.body.take k = r.body := List.take_of_length_le (by have := HL.out; omega)
      have NR : NewR wr (w.heap.size + 2) (fun _ => False) r ah' nh ch' a5 k c5 := by
        refine ⟨own_base (up_ext HOW.out HS.out.old) (by omega), ps, by rw [hps, hfull], own_base hrow (by omega), fun p hp => own_base (hts p hp) (by omega), ?_, fun _ _ _ _ h => h⟩
        refine List.pairwise_cons.2 ⟨fun x hx => ?_, hap⟩
        obtain ⟨p, hp, rfl⟩ := List.mem_map.1 hx
        cases hv : (Value.slice ah' nh ch').ownBlock with
        | none => exact .inl rfl
        | some b =>
          refine .inr fun e2 => ?_
          have l1 := (HOW.out.lt b hv).2
          have l2 := ((hts p hp).lt b e2.symm).1
          omega
      have RV : RuleB r := RuleB.of HR.out
      have CP := cap_of_own HOW.out
      have CB := cap_of_own hrow
      have HNR := Lib.hid NR
      clear NR hps hrow hts hap
      go_wp2
      have N4 := ((((HNR.out.set (a := ⟨w.heap.size, 2, none⟩) (u := .slice a5 k c5) (.inl (by show w.heap.size < _; omega))).set (a := ⟨w.heap.size + 1, 0, none⟩) (u := .string r.head.pred) (.inl (Nat.lt_succ_self _))).set (a := ⟨w.heap.size + 1, 1, none⟩) (u := .slice ah' nh ch') (.inl (Nat.lt_succ_self _))).set (a := ⟨w.heap.size + 1, 2, none⟩) (u := .slice a5 k c5) (.inl (Nat.lt_succ_self _)))
      have E6 : Ext w ((((wr.setCell ⟨w.heap.size, 2, none⟩ (.slice a5 k c5)).setCell ⟨w.heap.size + 1, 0, none⟩ (.string r.head.pred)).setCell ⟨w.heap.size + 1, 1, none⟩ (.slice ah' nh ch')).setCell ⟨w.heap.size + 1, 2, none⟩ (.slice a5 k c5)) :=
        ext_set (ext_set (ext_set (ext_set (ext_trans hb2 HS.out.old) (Nat.le_refl _) _) (Nat.le_succ _) _) (Nat.le_succ _) _) (Nat.le_succ _) _
      obtain ⟨S0, S1, S2⟩ := set4 (b := w.heap.size) (c := w.heap.size + 1) (by omega) t0 t1 t2 (.slice a5 k c5) (.string r.head.pred) (.slice ah' nh ch') (.slice a5 k c5) rfl
      generalize ((((wr.setCell ⟨w.heap.size, 2, none⟩ (.slice a5 k c5)).setCell ⟨w.heap.size + 1, 0, none⟩ (.string r.head.pred)).setCell ⟨w.heap.size + 1, 1, none⟩ (.slice ah' nh ch')).setCell ⟨w.heap.size + 1, 2, none⟩ (.slice a5 k c5)) = W6 at N4 E6 S0 S1 S2 ⊢
      refine bodyPost_ret (by simp [results, Try.results53, go_sem, S0, S1, S2]; try rfl) rfl ?_
      exact ⟨ah', ch', a5, c5, rfl, N4.rule RV, N4, E6⟩
end Go.Proofs.Ytcphjfggjjonpaa
