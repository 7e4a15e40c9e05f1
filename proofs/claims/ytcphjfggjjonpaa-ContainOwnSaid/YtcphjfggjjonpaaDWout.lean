/- The walk of the document's without: the rule without a literal, in new memory. -/
import Derived.Test.YtcphjfggjjonpaaDOwn
namespace Go.Proofs.Ytcphjfggjjonpaa
open Go.ChangeShapes Go.WideShapes Go.ChangeAt Go.RowKit
theorem RuleB.less {r : Rule} {i : Nat} (h : RuleB r) : RuleB (less r i) := by
  have hsub : ∀ l ∈ (Go.Proofs.Ytcphjfggjjonpaa.less r i).body, l ∈ r.body := by
    intro l hl
    rcases List.mem_append.1 (show l ∈ r.body.take i ++ r.body.drop (i + 1) from hl) with hl | hl
    · exact List.mem_of_mem_take hl
    · exact List.mem_of_mem_drop hl
  refine ⟨h.pred, h.nh, h.texts, ?_, fun l hl => h.lits l (hsub l hl)⟩
  have : (r.body.take i ++ r.body.drop (i + 1)).length ≤ 1353245080303 := by
    have := h.nb
    rw [List.length_append, List.length_take, List.length_drop]
    omega
  exact this
set_option maxRecDepth 20000 in
set_option maxHeartbeats 4000000 in
theorem c_without (r : Rule) (i : Nat) (ah : Option Addr) (nh ch : Nat) (ab : Option Addr) (nb cb : Nat) (w : World) (hr : RuleV w r ah nh ch ab nb cb) (hi : i < nb) :
    Calls Try.prog 55 #[.agg #[.string r.head.pred, .slice ah nh ch, .slice ab nb cb], .int .i64 (i : Int)] w fun e w' => ∃ ah' ch' ab' cb', e = .returned (.agg #[.string r.head.pred, .slice ah' nh ch', .slice ab' (nb - 1) cb']) ∧ RuleV w' (less r i) ah' nh ch' ab' (nb - 1) cb' ∧ NewR w' (w.heap.size + 2) (fun _ => False) (less r i) ah' nh ch' ab' (nb - 1) cb' ∧ Ext w w' := by
  have HR := Lib.hid hr
  have HB := Lib.hid (RuleB.of hr)
  have hnb := hr.body.1
  clear hr
  obtain ⟨i0, hi0, hz0, hz1, hz2⟩ := info_parts info_lit
  go_enter Try.func55, Try.ntmps55
  go_upto_region 1 with (fail)
  refine wp_gen (fun W hW => ?_)
  have hb0 : Ext w W := by rw [hW]; go_grown
  have x0 : W.cell? ⟨w.heap.size, 0, none⟩ = some (.string r.head.pred) := by rw [hW]; go_simp
  have x1 : W.cell? ⟨w.heap.size, 1, none⟩ = some (.slice ah nh ch) := by rw [hW]; go_simp
  have x2 : W.cell? ⟨w.heap.size, 2, none⟩ = some (.slice ab nb cb) := by rw [hW]; go_simp
  have z0 : W.cell? ⟨w.heap.size + 1, 0, none⟩ = some (.string ⟨#[]⟩) := by rw [hW]; go_simp
  have z1 : W.cell? ⟨w.heap.size + 1, 1, none⟩ = some (.slice none 0 0) := by rw [hW]; go_simp
  have z2 : W.cell? ⟨w.heap.size + 1, 2, none⟩ = some (.slice none 0 0) := by rw [hW]; go_simp
  have q0 : W.frozen? ⟨w.heap.size + 1, 0, none⟩ = false := by rw [hW]; go_simp
  have q1 : W.frozen? ⟨w.heap.size + 1, 1, none⟩ = false := by rw [hW]; go_simp
  have q2 : W.frozen? ⟨w.heap.size + 1, 2, none⟩ = false := by rw [hW]; go_simp
  have hz : w.heap.size + 1 < W.heap.size := World.block_lt_of_cell? _ _ z0
  clear hW
  go_upto_region 2 with (go_at_call 53; (with_reducible refine (c_dOwn r _ _ _ _ _ _ _ (HR.out.keep hb0)).mono ?_); rintro e w3 ⟨a3, c3, b3, k3, rfl, R3, N3, h3⟩)
  refine wp_gen (fun W4 hW4 => ?_)
  have hb3 := ext_trans hb0 h3
  have e4 : Ext w3 W4 := by rw [hW4]; exact ext_alloc (Below.refl _ _) _
  have s4 : W4.heap.size = w3.heap.size + 1 := by rw [hW4]; simp
  have y0 : W4.cell? ⟨w3.heap.size, 0, none⟩ = some (.string r.head.pred) := by rw [hW4]; go_simp
  have y1 : W4.cell? ⟨w3.heap.size, 1, none⟩ = some (.slice a3 nh c3) := by rw [hW4]; go_simp
  have y2 : W4.cell? ⟨w3.heap.size, 2, none⟩ = some (.slice b3 nb k3) := by rw [hW4]; go_simp
  have f2 : W4.frozen? ⟨w3.heap.size, 2, none⟩ = false := by rw [hW4]; go_simp
  have hl3 := h3.size
  obtain ⟨b5, hb5⟩ : ∃ b, b = w3.heap.size := ⟨_, rfl⟩
  have N4 : NewR W4 (w.heap.size + 2) (fun b => b = b5) r a3 nh c3 b3 nb k3 := ((N3.mono (by omega)).avoid (fun b hb => .inr (.inr (by subst hb; exact Nat.le_of_eq hb5.symm)))).ext e4
  rw [← hb5] at y0 y1 y2 f2 s4 ⊢
  obtain ⟨ps, hps, hok, hcl, hnr⟩ := N4.parts (R3.keep e4)
  have hl5 : b5 < W4.heap.size := by omega
  have hlo : w.heap.size + 2 ≤ W4.heap.size := by omega
  have hlb : w.heap.size + 1 < b5 := by omega
  obtain ⟨_, _, h2, _⟩ := N4.body
  obtain ⟨g, k', e5, hcap⟩ := own_formS h2 (by omega)
  cases e5
  have hpl : ps.length = nb := by
    have h5 : (ps.map (·.1)).length = ps.length := List.length_map _
    have := HR.out.body.2.1
    rw [hps] at h5
    omega
  have hE4 := ext_trans hb3 e4
  have r0 := keep (ext_trans h3 e4) z0
  have r1 := keep (ext_trans h3 e4) z1
  have r2 := keep (ext_trans h3 e4) z2
  have q0 := ((ext_trans h3 e4).frozen (p := ⟨w.heap.size + 1, 0, none⟩) hz).trans q0
  have q1 := ((ext_trans h3 e4).frozen (p := ⟨w.heap.size + 1, 1, none⟩) hz).trans q1
  have q2 := ((ext_trans h3 e4).frozen (p := ⟨w.heap.size + 1, 2, none⟩) hz).trans q2
  have HE := Lib.hid hE4
  have HPS := Lib.hid hps
  have HNR := Lib.hid hnr
  have HCL := Lib.hid hcl
  have HH := Lib.hid N4.head
  have p1 : (0 : Int) ≤ (i : Int) := by omega
  have p2 : (i : Int) ≤ (k3 : Int) := by omega
  have p3 : (i : Int) + 1 ≤ (nb : Int) := by omega
  have p4 : (nb : Int) ≤ (k3 : Int) := by omega
  have p5 : (0 : Int) ≤ (i : Int) + 1 := by omega
  have L1 : Hid ((flatP (ps.take i)).length = i * 8) := by show _ = _; rw [flatP_len, List.length_take, hpl, Nat.min_eq_left (by omega)]
  have L2 : Hid ((flatP (ps.drop (i + 1))).length = (nb - (i + 1)) * 8) := by show _ = _; rw [flatP_len, List.length_drop, hpl]
  have B1 : Hid (0 + i ≤ maxLen) := by show _ ≤ _; unfold maxLen; omega
  have B2 : Hid ((0 + i) * 104 ≤ 140737488355328) := by show _ ≤ _; omega
  have B3 : Hid (0 + i + (nb - (i + 1)) ≤ maxLen) := by show _ ≤ _; unfold maxLen; omega
  have B4 : Hid ((0 + i + (nb - (i + 1))) * 104 ≤ 140737488355328) := by show _ ≤ _; omega
  have HPL := Lib.hid hpl
  clear hb0 hW4 h3 e4 N3 N4 R3 x0 x1 x2 z0 z1 z2 hps hok hcl hnr hb3 hl3 hE4 hpl h2 hb5
  go_upto_region 3 with (fail)
  have p6 : wrap64 ((i : Int) + 1) = (i : Int) + 1 := by unfold wrap64; omega
  have N1 : Hid (∀ ad, some (⟨g, 0, none⟩ : Addr) = some ad → ∀ j u, (flatP (ps.take i))[j]? = some u → W4.cell? (ad.add j) = some u) := fun ad e j u hu => HCL.out ad e j u (flatP_take hu)
  have DONE : Hid (0 + i + (nb - (i + 1)) = nb - 1) := by show _ = _; omega
  go_upto_region 4 with (at_builtin; go_loud (refine wpList_append_any rfl _ _ 25 rfl W4.heap.size 43 i0 (.agg #[.int .i64 0, .string ⟨#[]⟩, .slice none 0 0, .int .i64 0, .int .i64 0, .string ⟨#[]⟩, .int .i64 0, .string ⟨#[]⟩]) 8 104 Try.underlying25 hi0 hz0 hz1 hz2 rfl (by decide) _ _ _ rfl (World.ownsRow_nil _ _ _ _) (some ⟨g, 0, none⟩) i k3 (flatP (ps.take i)) rfl (by intro h; cases h) L1.out N1.out (flatP_one _) B1.out B2.out (Nat.le_refl _) ?_); intro v6 w6 own6 g6; have e6 := ext_ownB (Below.refl _ W4 : Ext W4 W4) g6 (by intro g e; cases e); rw [List.nil_append] at own6; have y26 := keep e6 y2)
  go_cut [6] (fun v6 wc => Ext W4 wc ∧ ∃ a6 c6, v6 = .slice a6 (nb - 1) c6 ∧ wc.ownsRow W4.heap.size 43 8 (.slice a6 (nb - 1) c6) (nb - 1) (flatP (ps.take i ++ ps.drop (i + 1))))
  case first =>
    by_cases hkk : k3 = i + 1
    · have N2 : Hid (∀ w6, Ext W4 w6 → ∀ ad, some (⟨g, 0, none⟩ : Addr) = some ad → ∀ j u, (flatP (ps.drop (i + 1)))[j]? = some u → w6.cell? (ad.add j) = some u) := fun w6 e6 ad e j u hu => by
        have hj := (List.getElem?_eq_some_iff.1 hu).1
        have := L2.out
        have hnn : nb - (i + 1) = 0 := by omega
        rw [this, hnn] at hj
        omega
      have hkt : (k3 = i + 1) = True := eq_true hkk
      clear hkk
      go_wp2_with (first | (at_builtin; go_loud (refine wpList_append_any rfl _ _ 25 rfl W4.heap.size 43 i0 (.agg #[.int .i64 0, .string ⟨#[]⟩, .slice none 0 0, .int .i64 0, .int .i64 0, .string ⟨#[]⟩, .int .i64 0, .string ⟨#[]⟩]) 8 104 Try.underlying25 hi0 hz0 hz1 hz2 rfl (by decide) _ _ _ rfl own6 (some ⟨g, 0, none⟩) (nb - (i + 1)) (k3 - (i + 1)) (flatP (ps.drop (i + 1))) rfl (by intro h; cases h) L2.out (N2.out w6 e6) (flatP_one _) B3.out B4.out e6.size ?_); intro v7 w7 own7 g7; have e7 := ext_ownB e6 g7 (fun g e => (own6.lt g e).1)))
      rw [DONE.out, ← flatP_append] at own7
      obtain ⟨a7, c7, rfl, _⟩ := own_form own7
      go_meet
      exact ⟨e7, a7, c7, rfl, own7⟩
    · have N2 : Hid (∀ w6, Ext W4 w6 → ∀ ad, some (⟨g, (i + 1) * 8, none⟩ : Addr) = some ad → ∀ j u, (flatP (ps.drop (i + 1)))[j]? = some u → w6.cell? (ad.add j) = some u) := fun w6 e6 ad e j u hu => by
        cases e
        have := HCL.out _ rfl _ u (flatP_drop (by have := HPL.out; omega) hu)
        rw [Addr.add_lit, Nat.zero_add] at this
        rw [Addr.add_lit]
        exact keep e6 this
      go_wp2_with (first | (at_builtin; go_loud (refine wpList_append_any rfl _ _ 25 rfl W4.heap.size 43 i0 (.agg #[.int .i64 0, .string ⟨#[]⟩, .slice none 0 0, .int .i64 0, .int .i64 0, .string ⟨#[]⟩, .int .i64 0, .string ⟨#[]⟩]) 8 104 Try.underlying25 hi0 hz0 hz1 hz2 rfl (by decide) _ _ _ rfl own6 (some ⟨g, (i + 1) * 8, none⟩) (nb - (i + 1)) (k3 - (i + 1)) (flatP (ps.drop (i + 1))) rfl (by intro h; cases h) L2.out (N2.out w6 e6) (flatP_one _) B3.out B4.out e6.size ?_); intro v7 w7 own7 g7; have e7 := ext_ownB e6 g7 (fun g e => (own6.lt g e).1)))
      rw [DONE.out, ← flatP_append] at own7
      obtain ⟨a7, c7, rfl, _⟩ := own_form own7
      go_meet
      exact ⟨e7, a7, c7, rfl, own7⟩
  case rest =>
    obtain ⟨e7, a7, c7, rfl, own7⟩ := hcut
    have OW := Lib.hid own7
    have NW := Lib.hid (less_new HH.out HNR.out HPS.out e7 hl5 hlo own7 (Nat.le_refl _))
    have y0 := keep e7 y0
    have y1 := keep e7 y1
    have y2 := keep e7 y2
    have f2 := (e7.frozen (p := ⟨b5, 2, none⟩) hl5).trans f2
    have r0 := keep e7 r0
    have r1 := keep e7 r1
    have r2 := keep e7 r2
    have hz4 : w.heap.size + 1 < W4.heap.size := by omega
    have q0 := (e7.frozen (p := ⟨w.heap.size + 1, 0, none⟩) hz4).trans q0
    have q1 := (e7.frozen (p := ⟨w.heap.size + 1, 1, none⟩) hz4).trans q1
    have q2 := (e7.frozen (p := ⟨w.heap.size + 1, 2, none⟩) hz4).trans q2
    have HE7 := Lib.hid (ext_trans HE.out e7)
    clear own7 e7 p6
    have hne : b5 ≠ w.heap.size + 1 := by omega
    have hne' : w.heap.size + 1 ≠ b5 := by omega
    go_wp2
    have NR := ((((NW.out.set (a := ⟨b5, 2, none⟩) (u := .slice a7 (nb - 1) c7) (.inr (.inl rfl))).set (a := ⟨w.heap.size + 1, 0, none⟩) (u := .string r.head.pred) (.inl (Nat.lt_succ_self _))).set (a := ⟨w.heap.size + 1, 1, none⟩) (u := .slice a3 nh c3) (.inl (Nat.lt_succ_self _))).set (a := ⟨w.heap.size + 1, 2, none⟩) (u := .slice a7 (nb - 1) c7) (.inl (Nat.lt_succ_self _))).avoid (y := fun _ => False) (fun _ h => h.elim)
    have E6 : Ext w ((((wc.setCell ⟨b5, 2, none⟩ (.slice a7 (nb - 1) c7)).setCell ⟨w.heap.size + 1, 0, none⟩ (.string r.head.pred)).setCell ⟨w.heap.size + 1, 1, none⟩ (.slice a3 nh c3)).setCell ⟨w.heap.size + 1, 2, none⟩ (.slice a7 (nb - 1) c7)) :=
      ext_set (ext_set (ext_set (ext_set HE7.out (show w.heap.size ≤ b5 by omega) _) (Nat.le_succ _) _) (Nat.le_succ _) _) (Nat.le_succ _) _
    obtain ⟨S0, S1, S2⟩ := set4 (b := b5) (c := w.heap.size + 1) hne r0 r1 r2 (.slice a7 (nb - 1) c7) (.string r.head.pred) (.slice a3 nh c3) (.slice a7 (nb - 1) c7) rfl
    generalize ((((wc.setCell ⟨b5, 2, none⟩ (.slice a7 (nb - 1) c7)).setCell ⟨w.heap.size + 1, 0, none⟩ (.string r.head.pred)).setCell ⟨w.heap.size + 1, 1, none⟩ (.slice a3 nh c3)).setCell ⟨w.heap.size + 1, 2, none⟩ (.slice a7 (nb - 1) c7)) = W6 at NR E6 S0 S1 S2 ⊢
    refine bodyPost_ret (by simp [results, Try.results55, go_sem, S0, S1, S2]; try rfl) rfl ?_
    exact ⟨a3, c3, a7, c7, rfl, NR.rule HB.out.less, NR, E6⟩
end Go.Proofs.Ytcphjfggjjonpaa
