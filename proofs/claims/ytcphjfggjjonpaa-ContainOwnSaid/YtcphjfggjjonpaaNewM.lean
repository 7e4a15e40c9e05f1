/- The walk of contain.Minimal: what it answers is new memory. -/
import Derived.Test.YtcphjfggjjonpaaMin
import Derived.Test.YtcphjfggjjonpaaNewC
namespace Go.Proofs.Ytcphjfggjjonpaa
open Go.ChangeShapes Go.WideShapes Go.ChangeAt Go.RowKit
theorem noNewR (w : World) (lo : Nat) (x : Nat → Prop) : NewR w lo x noRule none 0 0 none 0 0 :=
  ⟨World.ownsRow_nil _ _ _ _, [], rfl, World.ownsRow_nil _ _ _ _, fun p hp => (by cases hp), List.pairwise_singleton _ _, fun v hv b e => by
    simp only [List.map_nil, List.mem_cons, List.not_mem_nil, or_false] at hv
    rcases hv with rfl | rfl <;> cases e⟩
/-- The literals of a new rule with their terms' addresses. -/
theorem NewR.parts {w : World} {lo : Nat} {x : Nat → Prop} {r : Rule} {ah : Option Addr} {nh ch : Nat} {ab : Option Addr} {nb cb : Nat} (h : NewR w lo x r ah nh ch ab nb cb) (hr : RuleV w r ah nh ch ab nb cb) :
    ∃ ps : List LitP, ps.map (·.1) = r.body ∧ (∀ p ∈ ps, okP w p) ∧ (∀ ad, ab = some ad → ∀ j u, (flatP ps)[j]? = some u → w.cell? (ad.add j) = some u) ∧
      ((∀ p ∈ ps, w.ownsRow lo 37 2 (slP p) p.2.2.1 (flatT p.1.atom.terms)) ∧ Apart (.slice ah nh ch :: ps.map slP) ∧ (∀ v ∈ Value.slice ab nb cb :: .slice ah nh ch :: ps.map slP, ∀ b, v.ownBlock = some b → ¬ x b)) := by
  obtain ⟨ps, h1, h2, h3, h4, h5⟩ := h.body
  obtain ⟨qs, q1, q2, _⟩ := hr.body.parts
  refine ⟨ps, h1, fun p hp => ?_, fun ad e j u hu => ?_, h3, h4, h5⟩
  · have hm : p.1 ∈ r.body := by rw [← h1]; exact List.mem_map.2 ⟨p, hp, rfl⟩
    rw [← q1] at hm
    obtain ⟨q, hq, e⟩ := List.mem_map.1 hm
    have ok := q2 q hq
    obtain ⟨l, a, m, d⟩ := p
    obtain ⟨l', a', m', d'⟩ := q
    have e : l' = l := e
    subst e
    have ho : w.ownsRow lo 37 2 (.slice a m d) m (flatT l'.atom.terms) := h3 _ hp
    have hml : m = m' := by
      have e1 : l'.atom.terms.length = m' := ok.1.2.1
      have e2 := ho.1
      rw [flatT_len] at e2
      omega
    have hmm := ok.1.1
    exact ⟨own_termsO ho (by show m ≤ _; rw [hml]; exact hmm) ok.1.texts, cap_of_own ho, ok.2.2⟩
  · subst e
    rcases h2.2 with ⟨hv, _⟩ | ⟨g, cap, cur, hv, _⟩
    · cases hv
    · cases hv
      exact h2.cells (g := g) rfl j u hu
structure MinSN (w0 : World) (b5 : Nat) (R : Int × Option Rule) (out : Rule) (i : Nat) (ah : Option Addr) (nh ch : Nat) (ab : Option Addr) (nb cb : Nat) (w : World) : Prop extends MinSt w0 b5 R out i ah nh ch ab nb cb w where
  fresh : NewR w (w0.heap.size + 2) (fun b => b = b5) out ah nh ch ab nb cb
theorem MinSN.keep {w0 w w' : World} {b5 : Nat} {R : Int × Option Rule} {out : Rule} {i : Nat} {ah : Option Addr} {nh ch : Nat} {ab : Option Addr} {nb cb : Nat} (h : MinSN w0 b5 R out i ah nh ch ab nb cb w) (e : Ext w w') : MinSN w0 b5 R out i ah nh ch ab nb cb w' := ⟨h.toMinSt.keep e, h.fresh.ext e⟩
theorem MinSN.next {w0 w : World} {b5 : Nat} {R : Int × Option Rule} {out : Rule} {i : Nat} {ah : Option Addr} {nh ch : Nat} {ab : Option Addr} {nb cb : Nat} (h : MinSN w0 b5 R out i ah nh ch ab nb cb w) (hi : i + 1 ≤ nb) (hl : R = minGo (out.body.length - (i + 1) + 1) out (i + 1)) : MinSN w0 b5 R out (i + 1) ah nh ch ab nb cb w := ⟨h.toMinSt.next hi hl, h.fresh⟩
theorem MinSN.cut {w0 w : World} {b5 : Nat} {R : Int × Option Rule} {out : Rule} {i : Nat} {ah : Option Addr} {nh ch : Nat} {ab : Option Addr} {nb cb : Nat} (h : MinSN w0 b5 R out i ah nh ch ab nb cb w) (hi : i < nb) {a' : Option Addr} {c' : Nat} (hn : NewR w (w0.heap.size + 2) (fun b => b = b5) (less out i) ah nh ch a' (nb - 1) c') (hr : RuleV w (less out i) ah nh ch a' (nb - 1) c') (hp : Go.Proofs.Ytcphjfggjjonpaa.plain (less out i) = true) (hl : R = minGo ((less out i).body.length - i + 1) (less out i) i) :
    MinSN w0 b5 R (less out i) i ah nh ch a' (nb - 1) c' (((w.setCell ⟨b5, 0, none⟩ (.string (less out i).head.pred)).setCell ⟨b5, 1, none⟩ (.slice ah nh ch)).setCell ⟨b5, 2, none⟩ (.slice a' (nb - 1) c')) :=
  ⟨h.toMinSt.cut hi hr hp hl, ((hn.set (.inr rfl)).set (.inr rfl)).set (.inr rfl)⟩
theorem c_cutN (ps : List LitP) (b o n k i : Nat) (w V : World) (B : Nat) (A2 : Option Addr) (hA : A2 = if k = i + 1 then some ⟨b, o, none⟩ else some ⟨b, o + (i + 1) * 8, none⟩) (hE : Ext w V) (hc : V.cell? ⟨B, 0, none⟩ = some (.slice (some ⟨b, o, none⟩) i k) ∧ V.cell? ⟨B, 1, none⟩ = some (.slice A2 (n - (i + 1)) (k - (i + 1)))) (hpl : ps.length = n) (hn : n ≤ 64) (hi : i < n) (hk : n ≤ k) (hcl : ∀ ad, some (⟨b, o, none⟩ : Addr) = some ad → ∀ j u, (flatP ps)[j]? = some u → w.cell? (ad.add j) = some u) :
    Calls Try.prog 54 #[.slice (some ⟨B, 0, none⟩) 2 2] V
      fun e w' => ∃ a' c', e = .returned (.slice a' (n - 1) c') ∧ w'.ownsRow V.heap.size 43 8 (.slice a' (n - 1) c') (n - 1) (flatP (ps.take i ++ ps.drop (i + 1))) ∧ Ext V w' := by
  have e1 : i + (n - (i + 1)) = n - 1 := by omega
  refine (c_Concat (ps.take i) (ps.drop (i + 1)) B (some ⟨b, o, none⟩) i k A2 (n - (i + 1)) (k - (i + 1)) V hc.1 hc.2 (by rw [List.length_take, hpl]; omega) (by rw [List.length_drop, hpl]) (by omega) (fun e => by cases e) ?_ (fun ad e j u hu => ?_) ?_).mono fun e w' h => ?_
  · intro e
    rw [hA] at e
    split at e <;> cases e
  · exact Go.Proofs.Ytcphjfggjjonpaa.keep hE (hcl ad e j u (flatP_take hu))
  · intro ad e j u hu
    have hj := (List.getElem?_eq_some_iff.1 hu).1
    rw [flatP_len, List.length_drop, hpl] at hj
    rw [hA, if_neg (by omega)] at e
    cases e
    have := hcl _ rfl _ u (flatP_drop (by omega) hu)
    rw [Addr.add_lit] at this ⊢
    rw [Nat.add_assoc]
    exact Go.Proofs.Ytcphjfggjjonpaa.keep hE this
  · rw [e1] at h
    obtain ⟨a', c', he, ho, hb⟩ := h
    exact ⟨a', c', he, ho, hb⟩
theorem less_new {wr w6 : World} {lo b5 base : Nat} {out : Rule} {i : Nat} {ah : Option Addr} {nh ch : Nat} {ab : Option Addr} {nb cb : Nat} {ps : List LitP} (hh : wr.ownsRow lo 37 2 (.slice ah nh ch) nh (flatT out.head.terms))
    (hn : (∀ p ∈ ps, wr.ownsRow lo 37 2 (slP p) p.2.2.1 (flatT p.1.atom.terms)) ∧ Apart (.slice ah nh ch :: ps.map slP) ∧ ∀ v ∈ Value.slice ab nb cb :: .slice ah nh ch :: ps.map slP, ∀ b, v.ownBlock = some b → ¬ b = b5)
    (hps : ps.map (·.1) = out.body) (e : Ext wr w6) (h5 : b5 < wr.heap.size) (hlo : lo ≤ wr.heap.size) {a' : Option Addr} {m c' : Nat}
    (ho : w6.ownsRow base 43 8 (.slice a' m c') m (flatP (ps.take i ++ ps.drop (i + 1)))) (hb : wr.heap.size ≤ base) : NewR w6 lo (fun b => b = b5 ∨ wr.heap.size ≤ b ∧ b < base) (less out i) ah nh ch a' m c' := by
  obtain ⟨h3, h4, h6⟩ := hn
  have hsub : (ps.take i ++ ps.drop (i + 1)).Sublist ps := by
    have h1 : (ps.take i ++ ps.drop (i + 1)).Sublist (ps.take i ++ ps.drop i) := (List.Sublist.refl _).append (by rw [← List.tail_drop]; exact List.tail_sublist _)
    rwa [List.take_append_drop] at h1
  have up : ∀ {v : Value} {n : Nat} {xs : List Value}, wr.ownsRow lo 37 2 v n xs → w6.ownsRow lo 37 2 v n xs := fun {v} _ _ hh => hh.kept (gb_of_ext e none) (by cases v.ownBlock <;> simp)
  refine ⟨up hh, ps.take i ++ ps.drop (i + 1), ?_, own_base ho (by omega), fun p hp => up (h3 p (hsub.mem hp)), List.Pairwise.sublist (List.Sublist.cons_cons _ (hsub.map _)) h4, fun v hv b ev hx => ?_⟩
  · rw [List.map_append, List.map_take, List.map_drop, hps]
    rfl
  · rcases List.mem_cons.1 hv with rfl | hv
    · have := ho.lt b ev
      omega
    · have hv2 : v ∈ Value.slice ab nb cb :: .slice ah nh ch :: ps.map slP := by
        rcases List.mem_cons.1 hv with rfl | hv
        · simp
        · exact List.mem_cons_of_mem _ (List.mem_cons_of_mem _ ((hsub.map _).mem hv))
      have h7 := h6 v hv2 b ev
      have h8 : b < wr.heap.size := by
        rcases List.mem_cons.1 hv with rfl | hv
        · exact (hh.lt b ev).2
        · obtain ⟨p, hp, rfl⟩ := List.mem_map.1 hv
          exact ((h3 p (hsub.mem hp)).lt b ev).2
      omega
set_option maxRecDepth 20000 in
set_option maxHeartbeats 4000000 in
theorem c_MinimalN (r : Rule) (ah : Option Addr) (nh ch : Nat) (ab : Option Addr) (nb cb : Nat) (w : World) (hr : RuleV w r ah nh ch ab nb cb) :
    Calls Try.prog 29 #[.agg #[.string r.head.pred, .slice ah nh ch, .slice ab nb cb]] w fun e w' => ∃ ah' nh' ch' ab' nb' cb', e = .returned (.tuple #[.agg #[.string ((minimal r).2.getD noRule).head.pred, .slice ah' nh' ch', .slice ab' nb' cb'], .int .i64 (minimal r).1]) ∧ RuleV w' ((minimal r).2.getD noRule) ah' nh' ch' ab' nb' cb' ∧ NewR w' (w.heap.size + 2) (fun _ => False) ((minimal r).2.getD noRule) ah' nh' ch' ab' nb' cb' ∧ Ext w w' := by
  have HR := Lib.hid hr
  clear hr
  obtain ⟨R, hR⟩ : ∃ R, minimal r = R := ⟨_, rfl⟩
  rw [hR]
  have HRR := Lib.hid hR
  clear hR
  go_enter Try.func29, Try.ntmps29
  go_upto_region 1 with (fail)
  refine wp_gen (fun W hW => ?_)
  have hb0 : Ext w W := by rw [hW]; go_grown
  have x0 : W.cell? ⟨w.heap.size, 0, none⟩ = some (.string r.head.pred) := by rw [hW]; go_simp
  have x1 : W.cell? ⟨w.heap.size, 1, none⟩ = some (.slice ah nh ch) := by rw [hW]; go_simp
  have x2 : W.cell? ⟨w.heap.size, 2, none⟩ = some (.slice ab nb cb) := by rw [hW]; go_simp
  have vz : VarR W (w.heap.size + 1) noRule none 0 0 none 0 0 := by
    rw [hW]
    have h := VarR.new (w.alloc (.cells #[.string r.head.pred, .slice ah nh ch, .slice ab nb cb] 27)) noRule none 0 0 none 0 0 27
    rw [World.size_alloc] at h
    exact h
  have VZ := Lib.hid vz
  clear hW vz
  obtain ⟨M, hM⟩ : ∃ M, mayRule r = M := ⟨_, rfl⟩
  have HM := Lib.hid hM
  clear hM
  obtain ⟨bm, hbm⟩ : ∃ b, (M != 0) = b := ⟨_, rfl⟩
  go_upto_if 13 with (go_at_call 37; (with_reducible refine (c_MayRule r _ _ _ _ _ _ _ (HR.out.keep hb0)).mono ?_); rw [HM.out]; rintro e w1 ⟨rfl, h1⟩)
  have VZ1 := Lib.hid (VZ.out.keep h1)
  cases bm with
  | true =>
    have v0 := VZ1.out.c0
    have v1 := VZ1.out.c1
    have v2 := VZ1.out.c2
    have f0 := VZ1.out.f0
    have f1 := VZ1.out.f1
    have f2 := VZ1.out.f2
    dsimp only [noRule] at v0
    go_wp2
    have P := VZ1.out.put noRule none 0 0 none 0 0
    have S0 := P.c0
    have S1 := P.c1
    have S2 := P.c2
    dsimp only [noRule] at S0 S1 S2
    have E6 : Ext w (((w1.setCell ⟨w.heap.size + 1, 0, none⟩ (.string ⟨#[]⟩)).setCell ⟨w.heap.size + 1, 1, none⟩ (.slice none 0 0)).setCell ⟨w.heap.size + 1, 2, none⟩ (.slice none 0 0)) := ext_set (ext_set (ext_set (ext_trans hb0 h1) (Nat.le_succ _) _) (Nat.le_succ _) _) (Nat.le_succ _) _
    clear P
    generalize (((w1.setCell ⟨w.heap.size + 1, 0, none⟩ (.string ⟨#[]⟩)).setCell ⟨w.heap.size + 1, 1, none⟩ (.slice none 0 0)).setCell ⟨w.heap.size + 1, 2, none⟩ (.slice none 0 0)) = W6 at S0 S1 S2 E6 ⊢
    refine bodyPost_ret (by simp [results, Try.results29, go_sem, S0, S1, S2]; try rfl) rfl ?_
    obtain rfl : R = (M, none) := by rw [← HRR.out, ← HM.out]; unfold minimal; rw [if_pos (by rw [HM.out]; simpa using hbm)]
    exact ⟨none, 0, 0, none, 0, 0, rfl, noRuleV _, noNewR _ _ _, E6⟩
  | false =>
    obtain rfl : M = 0 := by simpa using hbm
    obtain ⟨bp, hbp⟩ : ∃ b, plain r = b := ⟨_, rfl⟩
    have PL := Lib.hid hbp
    clear hbp hbm
    have y0 := keep h1 x0
    have y1 := keep h1 x1
    have y2 := keep h1 x2
    have hb1 := ext_trans hb0 h1
    clear x0 x1 x2 h1
    go_upto_if 18 with (go_at_call 15; (with_reducible refine (c_Plain r _ _ _ _ _ _ _ (HR.out.keep hb1)).mono ?_); rw [PL.out]; rintro e w2 ⟨rfl, h2⟩)
    have VZ2 := Lib.hid (VZ1.out.keep h2)
    cases bp with
    | false =>
      have v0 := VZ2.out.c0
      have v1 := VZ2.out.c1
      have v2 := VZ2.out.c2
      have f0 := VZ2.out.f0
      have f1 := VZ2.out.f1
      have f2 := VZ2.out.f2
      dsimp only [noRule] at v0
      go_wp2
      have P := VZ2.out.put noRule none 0 0 none 0 0
      have S0 := P.c0
      have S1 := P.c1
      have S2 := P.c2
      dsimp only [noRule] at S0 S1 S2
      have E6 : Ext w (((w2.setCell ⟨w.heap.size + 1, 0, none⟩ (.string ⟨#[]⟩)).setCell ⟨w.heap.size + 1, 1, none⟩ (.slice none 0 0)).setCell ⟨w.heap.size + 1, 2, none⟩ (.slice none 0 0)) := ext_set (ext_set (ext_set (ext_trans hb1 h2) (Nat.le_succ _) _) (Nat.le_succ _) _) (Nat.le_succ _) _
      clear P
      generalize (((w2.setCell ⟨w.heap.size + 1, 0, none⟩ (.string ⟨#[]⟩)).setCell ⟨w.heap.size + 1, 1, none⟩ (.slice none 0 0)).setCell ⟨w.heap.size + 1, 2, none⟩ (.slice none 0 0)) = W6 at S0 S1 S2 E6 ⊢
      refine bodyPost_ret (by simp [results, Try.results29, go_sem, S0, S1, S2]; try rfl) rfl ?_
      obtain rfl : R = (240, none) := by rw [← HRR.out]; unfold minimal; rw [if_neg (by rw [HM.out]; simp), if_pos PL.out]
      exact ⟨none, 0, 0, none, 0, 0, rfl, noRuleV _, noNewR _ _ _, E6⟩
    | true =>
      have y0 := keep h2 y0
      have y1 := keep h2 y1
      have y2 := keep h2 y2
      have hb2 := ext_trans hb1 h2
      clear h2 hb1 hb0
      go_upto_region 7 with (go_at_call 51; (with_reducible refine (c_ownN r _ _ _ _ _ _ _ (HR.out.keep hb2)).mono ?_); rintro e w3 ⟨a3, c3, b3, k3, rfl, R3, N3, h3⟩)
      refine wp_gen (fun W4 hW4 => ?_)
      have st : MinSN w w3.heap.size R r 0 a3 nh c3 b3 nb k3 W4 := by
        have hb3 := ext_trans hb2 h3
        have e4 : Ext w3 W4 := by rw [hW4]; exact ext_alloc (Below.refl _ _) _
        refine ⟨⟨ext_trans hb3 e4, ?_, (VZ2.out.keep h3).keep e4, ?_, R3.keep e4, PL.out, ?_, Nat.zero_le _⟩, ((N3.mono (by have := hb2.size; omega)).avoid (fun b hb => .inr (.inr (by subst hb; exact Nat.le_refl _)))).ext e4⟩
        · exact Nat.lt_of_lt_of_le VZ2.out.lt h3.size
        · rw [hW4]; exact VarR.new w3 r a3 nh c3 b3 nb k3 _
        · rw [← HRR.out]; unfold minimal; rw [if_neg (by rw [HM.out]; simp), if_neg (by rw [PL.out]; simp)]; rfl
      obtain ⟨b5, hb5⟩ : ∃ b, b = w3.heap.size := ⟨_, rfl⟩
      rw [← hb5] at st ⊢
      have ST := Lib.hid st
      clear st hW4 R3 N3 h3 hb5 y0 y1 y2 hb2 VZ1 VZ2
      go_wp2
      go_loopw [6] (fun v wj => ∃ out i a3 n3 c3 b3 nb3 k3, v = .int .i64 ((i : Nat) : Int) ∧ MinSN w b5 R out i a3 n3 c3 b3 nb3 k3 wj) (fun v wj => lenOf (wj.cell? ⟨b5, 2, none⟩) - (intOf v).toNat)
      case atStart => exact ⟨r, 0, _, _, _, _, _, _, rfl, ST.out⟩
      case round =>
        obtain ⟨out, i, a3, n3, c3, b3, nb3, k3, rfl, hs⟩ := hrel
        clear ST
        have HS := Lib.hid hs
        have hlen := hs.rule.body.2.1
        have hn64 := nb_le hs.rule hs.plain
        have hle := hs.le
        have z0 := hs.var.c0
        have z1 := hs.var.c1
        have z2 := hs.var.c2
        have HLEN := Lib.hid hlen
        clear hs hlen
        by_cases hge : nb3 ≤ i
        · have v0 := HS.out.res.c0
          have v1 := HS.out.res.c1
          have v2 := HS.out.res.c2
          have f0 := HS.out.res.f0
          have f1 := HS.out.res.f1
          have f2 := HS.out.res.f2
          dsimp only [noRule] at v0
          go_wp2
          have P := HS.out.res.put out a3 n3 c3 b3 nb3 k3
          have NR := ((HS.out.fresh.set (a := ⟨w.heap.size + 1, 0, none⟩) (u := .string out.head.pred) (.inl (Nat.lt_succ_self _))).set (a := ⟨w.heap.size + 1, 1, none⟩) (u := .slice a3 n3 c3) (.inl (Nat.lt_succ_self _))).set (a := ⟨w.heap.size + 1, 2, none⟩) (u := .slice b3 nb3 k3) (.inl (Nat.lt_succ_self _))
          have NR0 := NR.avoid (y := fun _ => False) (fun b hb => hb.elim)
          clear NR
          have Q := HS.out.rule.put HS.out.res out a3 n3 c3 b3 nb3 k3
          have S0 := P.c0
          have S1 := P.c1
          have S2 := P.c2
          have E6 : Ext w (((wr.setCell ⟨w.heap.size + 1, 0, none⟩ (.string out.head.pred)).setCell ⟨w.heap.size + 1, 1, none⟩ (.slice a3 n3 c3)).setCell ⟨w.heap.size + 1, 2, none⟩ (.slice b3 nb3 k3)) := ext_set (ext_set (ext_set HS.out.old (Nat.le_succ _) _) (Nat.le_succ _) _) (Nat.le_succ _) _
          clear P
          generalize (((wr.setCell ⟨w.heap.size + 1, 0, none⟩ (.string out.head.pred)).setCell ⟨w.heap.size + 1, 1, none⟩ (.slice a3 n3 c3)).setCell ⟨w.heap.size + 1, 2, none⟩ (.slice b3 nb3 k3)) = W6 at S0 S1 S2 Q E6 NR0 ⊢
          refine bodyPost_ret (by simp [results, Try.results29, go_sem, S0, S1, S2]; try rfl) rfl ?_
          obtain rfl : R = (0, some out) := by
            rw [← HS.out.law, minGo, if_neg (by rw [HLEN.out]; omega)]
          exact ⟨a3, n3, c3, b3, nb3, k3, rfl, Q, NR0, E6⟩
        · obtain ⟨b3', o3', rfl, _⟩ : ∃ b o, b3 = some ⟨b, o, none⟩ ∧ True := by
            obtain ⟨_, b, o, _, e, _⟩ := HS.out.rule.body.2.at (i := i) (by omega)
            exact ⟨b, o, e, trivial⟩
          have hcap := HS.out.rule.bcap.1
          have hki : (i : Int) < (nb3 : Int) := by omega
          obtain ⟨ps, hps, hok, hcl, hnr⟩ := HS.out.fresh.parts HS.out.rule
          have hpl : ps.length = nb3 := by rw [← HS.out.rule.body.2.1, ← hps, List.length_map]
          have HPS := Lib.hid hps
          have HOK := Lib.hid hok
          have HCL := Lib.hid hcl
          have HNR := Lib.hid hnr
          clear hps hok hcl hnr
          have hd : Ext wr wr.drew := ext_drew (Below.refl _ _)
          have hlt9 : i < nb3 := by omega
          have hb5w : ∀ {b : Nat}, wr.heap.size ≤ b → b5 ≠ b := fun h => by have := HS.out.var.lt; omega
          have q1 : (0 : Int) ≤ (i : Int) := by omega
          have q2 : (i : Int) ≤ (k3 : Int) := by omega
          have q3 : (i : Int) + 1 ≤ (nb3 : Int) := by omega
          have q4 : (nb3 : Int) ≤ (k3 : Int) := by omega
          have q5 : (0 : Int) ≤ (i : Int) + 1 := by omega
          have q6 : wrap64 ((i : Int) + 1) = (i : Int) + 1 := by unfold wrap64; omega
          have q7 : IntKind.i64.wrap ((i : Int) + 1) = (i : Int) + 1 := (IntWalk.i64_left _).trans q6
          go_upto_region 9 with (fail)
          go_cut [7] (fun v7 wc => ∃ b7 a' c', v7 = .pointer (some ⟨b7, 0, none⟩) ∧ Ext wr wc ∧ VarR wc b7 (less out i) a3 n3 c3 a' (nb3 - 1) c' ∧ RuleV wc (less out i) a3 n3 c3 a' (nb3 - 1) c' ∧ b7 ≠ b5 ∧ NewR wc (w.heap.size + 2) (fun b => b = b5) (less out i) a3 n3 c3 a' (nb3 - 1) c')
          case first =>
            by_cases hkk : k3 = i + 1
            · have HK := Lib.hid hkk
              have hkt : (k3 = i + 1) = True := eq_true hkk
              clear hkk
              go_region_held3 (fun w' => w'.cell? ⟨b5, 0, none⟩ = some (.string out.head.pred) ∧ w'.cell? ⟨b5, 1, none⟩ = some (.slice a3 n3 c3) ∧ w'.cell? ⟨b5, 2, none⟩ = some (.slice (some ⟨b3', o3', none⟩) nb3 k3))
                (first | go_keep | exact ⟨keep g6 z0, keep g6 z1, keep g6 z2⟩ | exact ⟨keep (ext_alloc g6 _) z0, keep (ext_alloc g6 _) z1, keep (ext_alloc g6 _) z2⟩ | exact ⟨((HS.out.var.keep g6).put_other (hb5w (Nat.le_refl _)) VR (less out i) a3 n3 c3 a6 (nb3 - 1) p6).c0, ((HS.out.var.keep g6).put_other (hb5w (Nat.le_refl _)) VR (less out i) a3 n3 c3 a6 (nb3 - 1) p6).c1, ((HS.out.var.keep g6).put_other (hb5w (Nat.le_refl _)) VR (less out i) a3 n3 c3 a6 (nb3 - 1) p6).c2⟩ | exact ⟨((HS.out.var.keep g6).put_other (hb5w (Nat.le_succ _)) VR (less out i) a3 n3 c3 a6 (nb3 - 1) p6).c0, ((HS.out.var.keep g6).put_other (hb5w (Nat.le_succ _)) VR (less out i) a3 n3 c3 a6 (nb3 - 1) p6).c1, ((HS.out.var.keep g6).put_other (hb5w (Nat.le_succ _)) VR (less out i) a3 n3 c3 a6 (nb3 - 1) p6).c2⟩ | fail)
                (first | (go_at_call 54; (with_reducible refine (c_cutN ps b3' o3' nb3 k3 i wr _ wr.heap.size _ (if_pos HK.out).symm (ext_drew (ext_alloc (Below.refl wr.heap.size wr) _)) (⟨keep (ext_drew (Below.refl _ _)) (two_at wr _ rfl _ _ _).1, keep (ext_drew (Below.refl _ _)) (two_at wr _ rfl _ _ _).2⟩) hpl hn64 hlt9 hcap HCL.out).mono ?_); rintro e w6 ⟨a6, p6, rfl, own6, gV⟩; have g6 := ext_trans (ext_drew (ext_alloc (Below.refl wr.heap.size wr) _)) gV) | (go_at_call 54; (with_reducible refine (c_cutN ps b3' o3' nb3 k3 i wr _ wr.heap.size _ (if_pos HK.out).symm (ext_drew (ext_alloc (ext_alloc (Below.refl wr.heap.size wr) _) _)) (⟨keep (ext_drew (ext_alloc (Below.refl _ _) _)) (two_at wr _ rfl _ _ _).1, keep (ext_drew (ext_alloc (Below.refl _ _) _)) (two_at wr _ rfl _ _ _).2⟩) hpl hn64 hlt9 hcap HCL.out).mono ?_); rintro e w6 ⟨a6, p6, rfl, own6, gV⟩; have g6 := ext_trans (ext_drew (ext_alloc (ext_alloc (Below.refl wr.heap.size wr) _) _)) gV; have VR := (VarR.new (wr.alloc (.cells #[.slice (some ⟨b3', o3', none⟩) i k3, .slice (some ⟨b3', o3', none⟩) (nb3 - (i + 1)) (k3 - (i + 1))] 25)) noRule none 0 0 none 0 0 27).keep (ext_trans (ext_drew (Below.refl _ _)) gV); rw [World.size_alloc] at VR; have t0 := VR.c0; have t1 := VR.c1; have t2 := VR.c2; have t3 := VR.f0; have t4 := VR.f1; have t5 := VR.f2; dsimp only [noRule] at t0) | (go_at_call 54; (with_reducible refine (c_cutN ps b3' o3' nb3 k3 i wr _ (wr.heap.size + 1) _ (if_pos HK.out).symm (ext_drew (ext_alloc (ext_alloc (Below.refl wr.heap.size wr) _) _)) (⟨keep (ext_drew (Below.refl _ _)) (two_at (wr.alloc _) _ (by simp) _ _ _).1, keep (ext_drew (Below.refl _ _)) (two_at (wr.alloc _) _ (by simp) _ _ _).2⟩) hpl hn64 hlt9 hcap HCL.out).mono ?_); rintro e w6 ⟨a6, p6, rfl, own6, gV⟩; have g6 := ext_trans (ext_drew (ext_alloc (ext_alloc (Below.refl wr.heap.size wr) _) _)) gV; have VR := (VarR.new wr noRule none 0 0 none 0 0 27).keep (ext_trans (ext_drew (ext_alloc (Below.refl _ _) _)) gV); have t0 := VR.c0; have t1 := VR.c1; have t2 := VR.c2; have t3 := VR.f0; have t4 := VR.f1; have t5 := VR.f2; dsimp only [noRule] at t0) | fail)
              all_goals
                go_wp2
                go_meet
                have hm : RuleV w6 (less out i) a3 n3 c3 a6 (nb3 - 1) p6 := less_rule HS.out.rule g6 HPS.out HOK.out hlt9 own6
                have hnm := less_new HS.out.fresh.head HNR.out HPS.out g6 HS.out.var.lt (Nat.le_trans (Nat.succ_le_of_lt HS.out.low) (Nat.le_of_lt HS.out.var.lt)) own6 (by first | (simp; done) | (simp; omega))
                first | exact ⟨w6.heap.size, a6, p6, rfl, ext_alloc g6 _, VarR.new w6 (less out i) a3 n3 c3 a6 (nb3 - 1) p6 _, hm.keep (ext_alloc (Below.refl _ _) _), (hb5w g6.size).symm, (hnm.avoid (fun b hb => .inl (.inl hb))).ext (ext_alloc (Below.refl _ _) _)⟩ | exact ⟨wr.heap.size + 1, a6, p6, rfl, ext_set (ext_set (ext_set g6 (Nat.le_succ _) _) (Nat.le_succ _) _) (Nat.le_succ _) _, VR.put (less out i) a3 n3 c3 a6 (nb3 - 1) p6, hm.put VR (less out i) a3 n3 c3 a6 (nb3 - 1) p6, (hb5w (Nat.le_succ _)).symm, (((hnm.set (.inr (.inr ⟨Nat.le_succ _, (by first | (simp; done) | (simp; omega))⟩))).set (.inr (.inr ⟨Nat.le_succ _, (by first | (simp; done) | (simp; omega))⟩))).set (.inr (.inr ⟨Nat.le_succ _, (by first | (simp; done) | (simp; omega))⟩))).avoid (fun b hb => .inl (.inl hb))⟩ | exact ⟨wr.heap.size, a6, p6, rfl, ext_set (ext_set (ext_set g6 (Nat.le_refl _) _) (Nat.le_refl _) _) (Nat.le_refl _) _, VR.put (less out i) a3 n3 c3 a6 (nb3 - 1) p6, hm.put VR (less out i) a3 n3 c3 a6 (nb3 - 1) p6, (hb5w (Nat.le_refl _)).symm, (((hnm.set (.inr (.inr ⟨Nat.le_refl _, (by first | (simp; done) | (simp; omega))⟩))).set (.inr (.inr ⟨Nat.le_refl _, (by first | (simp; done) | (simp; omega))⟩))).set (.inr (.inr ⟨Nat.le_refl _, (by first | (simp; done) | (simp; omega))⟩))).avoid (fun b hb => .inl (.inl hb))⟩
            · go_region_held3 (fun w' => w'.cell? ⟨b5, 0, none⟩ = some (.string out.head.pred) ∧ w'.cell? ⟨b5, 1, none⟩ = some (.slice a3 n3 c3) ∧ w'.cell? ⟨b5, 2, none⟩ = some (.slice (some ⟨b3', o3', none⟩) nb3 k3))
                (first | go_keep | exact ⟨keep g6 z0, keep g6 z1, keep g6 z2⟩ | exact ⟨keep (ext_alloc g6 _) z0, keep (ext_alloc g6 _) z1, keep (ext_alloc g6 _) z2⟩ | exact ⟨((HS.out.var.keep g6).put_other (hb5w (Nat.le_refl _)) VR (less out i) a3 n3 c3 a6 (nb3 - 1) p6).c0, ((HS.out.var.keep g6).put_other (hb5w (Nat.le_refl _)) VR (less out i) a3 n3 c3 a6 (nb3 - 1) p6).c1, ((HS.out.var.keep g6).put_other (hb5w (Nat.le_refl _)) VR (less out i) a3 n3 c3 a6 (nb3 - 1) p6).c2⟩ | exact ⟨((HS.out.var.keep g6).put_other (hb5w (Nat.le_succ _)) VR (less out i) a3 n3 c3 a6 (nb3 - 1) p6).c0, ((HS.out.var.keep g6).put_other (hb5w (Nat.le_succ _)) VR (less out i) a3 n3 c3 a6 (nb3 - 1) p6).c1, ((HS.out.var.keep g6).put_other (hb5w (Nat.le_succ _)) VR (less out i) a3 n3 c3 a6 (nb3 - 1) p6).c2⟩ | fail)
                (first | (go_at_call 54; (with_reducible refine (c_cutN ps b3' o3' nb3 k3 i wr _ wr.heap.size _ (if_neg hkk).symm (ext_drew (ext_alloc (Below.refl wr.heap.size wr) _)) (⟨keep (ext_drew (Below.refl _ _)) (two_at wr _ rfl _ _ _).1, keep (ext_drew (Below.refl _ _)) (two_at wr _ rfl _ _ _).2⟩) hpl hn64 hlt9 hcap HCL.out).mono ?_); rintro e w6 ⟨a6, p6, rfl, own6, gV⟩; have g6 := ext_trans (ext_drew (ext_alloc (Below.refl wr.heap.size wr) _)) gV) | (go_at_call 54; (with_reducible refine (c_cutN ps b3' o3' nb3 k3 i wr _ wr.heap.size _ (if_neg hkk).symm (ext_drew (ext_alloc (ext_alloc (Below.refl wr.heap.size wr) _) _)) (⟨keep (ext_drew (ext_alloc (Below.refl _ _) _)) (two_at wr _ rfl _ _ _).1, keep (ext_drew (ext_alloc (Below.refl _ _) _)) (two_at wr _ rfl _ _ _).2⟩) hpl hn64 hlt9 hcap HCL.out).mono ?_); rintro e w6 ⟨a6, p6, rfl, own6, gV⟩; have g6 := ext_trans (ext_drew (ext_alloc (ext_alloc (Below.refl wr.heap.size wr) _) _)) gV; have VR := (VarR.new (wr.alloc (.cells #[.slice (some ⟨b3', o3', none⟩) i k3, .slice (some ⟨b3', o3' + (i + 1) * 8, none⟩) (nb3 - (i + 1)) (k3 - (i + 1))] 25)) noRule none 0 0 none 0 0 27).keep (ext_trans (ext_drew (Below.refl _ _)) gV); rw [World.size_alloc] at VR; have t0 := VR.c0; have t1 := VR.c1; have t2 := VR.c2; have t3 := VR.f0; have t4 := VR.f1; have t5 := VR.f2; dsimp only [noRule] at t0) | (go_at_call 54; (with_reducible refine (c_cutN ps b3' o3' nb3 k3 i wr _ (wr.heap.size + 1) _ (if_neg hkk).symm (ext_drew (ext_alloc (ext_alloc (Below.refl wr.heap.size wr) _) _)) (⟨keep (ext_drew (Below.refl _ _)) (two_at (wr.alloc _) _ (by simp) _ _ _).1, keep (ext_drew (Below.refl _ _)) (two_at (wr.alloc _) _ (by simp) _ _ _).2⟩) hpl hn64 hlt9 hcap HCL.out).mono ?_); rintro e w6 ⟨a6, p6, rfl, own6, gV⟩; have g6 := ext_trans (ext_drew (ext_alloc (ext_alloc (Below.refl wr.heap.size wr) _) _)) gV; have VR := (VarR.new wr noRule none 0 0 none 0 0 27).keep (ext_trans (ext_drew (ext_alloc (Below.refl _ _) _)) gV); have t0 := VR.c0; have t1 := VR.c1; have t2 := VR.c2; have t3 := VR.f0; have t4 := VR.f1; have t5 := VR.f2; dsimp only [noRule] at t0) | fail)
              all_goals
                go_wp2
                go_meet
                have hm : RuleV w6 (less out i) a3 n3 c3 a6 (nb3 - 1) p6 := less_rule HS.out.rule g6 HPS.out HOK.out hlt9 own6
                have hnm := less_new HS.out.fresh.head HNR.out HPS.out g6 HS.out.var.lt (Nat.le_trans (Nat.succ_le_of_lt HS.out.low) (Nat.le_of_lt HS.out.var.lt)) own6 (by first | (simp; done) | (simp; omega))
                first | exact ⟨w6.heap.size, a6, p6, rfl, ext_alloc g6 _, VarR.new w6 (less out i) a3 n3 c3 a6 (nb3 - 1) p6 _, hm.keep (ext_alloc (Below.refl _ _) _), (hb5w g6.size).symm, (hnm.avoid (fun b hb => .inl (.inl hb))).ext (ext_alloc (Below.refl _ _) _)⟩ | exact ⟨wr.heap.size + 1, a6, p6, rfl, ext_set (ext_set (ext_set g6 (Nat.le_succ _) _) (Nat.le_succ _) _) (Nat.le_succ _) _, VR.put (less out i) a3 n3 c3 a6 (nb3 - 1) p6, hm.put VR (less out i) a3 n3 c3 a6 (nb3 - 1) p6, (hb5w (Nat.le_succ _)).symm, (((hnm.set (.inr (.inr ⟨Nat.le_succ _, (by first | (simp; done) | (simp; omega))⟩))).set (.inr (.inr ⟨Nat.le_succ _, (by first | (simp; done) | (simp; omega))⟩))).set (.inr (.inr ⟨Nat.le_succ _, (by first | (simp; done) | (simp; omega))⟩))).avoid (fun b hb => .inl (.inl hb))⟩ | exact ⟨wr.heap.size, a6, p6, rfl, ext_set (ext_set (ext_set g6 (Nat.le_refl _) _) (Nat.le_refl _) _) (Nat.le_refl _) _, VR.put (less out i) a3 n3 c3 a6 (nb3 - 1) p6, hm.put VR (less out i) a3 n3 c3 a6 (nb3 - 1) p6, (hb5w (Nat.le_refl _)).symm, (((hnm.set (.inr (.inr ⟨Nat.le_refl _, (by first | (simp; done) | (simp; omega))⟩))).set (.inr (.inr ⟨Nat.le_refl _, (by first | (simp; done) | (simp; omega))⟩))).set (.inr (.inr ⟨Nat.le_refl _, (by first | (simp; done) | (simp; omega))⟩))).avoid (fun b hb => .inl (.inl hb))⟩
          case rest =>
            obtain ⟨b7, a7, c7, rfl, e7, V7, R7, hne, N7⟩ := hcut
            have NN := Lib.hid N7
            have HS7 := Lib.hid (show MinSN w b5 R out i a3 n3 c3 (some ⟨b3', o3', none⟩) nb3 k3 wc from ⟨⟨ext_trans HS.out.old e7, HS.out.low, HS.out.res.keep e7, HS.out.var.keep e7, HS.out.rule.keep e7, HS.out.plain, HS.out.law, HS.out.le⟩, HS.out.fresh.ext e7⟩)
            have y0 := V7.c0
            have y1 := V7.c1
            have y2 := V7.c2
            have u0 := keep e7 z0
            have u1 := keep e7 z1
            have u2 := keep e7 z2
            have VV := Lib.hid V7
            have Z2 := Lib.hid z2
            have ROUND := Lib.hid (HS.out.law.symm.trans (minGo_round (by rw [HLEN.out]; exact hlt9)))
            have RR := Lib.hid R7
            clear e7 V7 R7 N7 z0 z1 z2 HPS HOK HCL hpl
            obtain ⟨bp, hbp⟩ : ∃ b, plain (less out i) = b := ⟨_, rfl⟩
            have PL := Lib.hid hbp
            clear hbp
            go_upto_if 43 with (go_at_call 15; (with_reducible refine (c_Plain (less out i) _ _ _ _ _ _ _ RR.out).mono ?_); rw [PL.out]; rintro e w8 ⟨rfl, h8⟩)
            cases bp with
            | false =>
              have HS9 := HS7.out.keep h8
              have n2 := HS9.var.c2
              go_wp2
              go_roundw
              case rel => exact ⟨out, i + 1, a3, n3, c3, _, nb3, k3, by go_num, HS9.next (by omega) (by rw [ROUND.out, if_pos PL.out])⟩
              case measure =>
                rw [Z2.out, n2]
                simp [intOf, lenOf]
                omega
            | true =>
              have y0 := keep h8 y0
              have y1 := keep h8 y1
              have y2 := keep h8 y2
              have u0 := keep h8 u0
              have u1 := keep h8 u1
              have u2 := keep h8 u2
              have RR8 := Lib.hid (RR.out.keep h8)
              have NN8 := Lib.hid (NN.out.ext h8)
              have VV8 := Lib.hid (VV.out.keep h8)
              have HS8 := Lib.hid (HS7.out.keep h8)
              clear h8 HS7 RR VV
              obtain ⟨E, hE⟩ : ∃ b, (laid (less out i) out).1 = b := ⟨_, rfl⟩
              obtain ⟨B, hB⟩ : ∃ b, (laid (less out i) out).2.isSome = b := ⟨_, rfl⟩
              have EH := Lib.hid hE
              have BH := Lib.hid hB
              clear hE hB
              go_upto_region 14 with (go_at_call 16; (with_reducible refine (c_Within (less out i) out _ _ _ _ _ _ _ _ _ _ _ _ w8 RR8.out HS8.out.rule).mono ?_); rw [EH.out, BH.out]; rintro e w9 ⟨rfl, h9⟩)
              have HS9 := Lib.hid (HS8.out.keep h9)
              by_cases h0 : E = 0
              · subst h0
                cases B with
                | false =>
                  have HS9 := HS9.out
                  have n2 := HS9.var.c2
                  go_wp2
                  go_roundw
                  case rel => exact ⟨out, i + 1, a3, n3, c3, _, nb3, k3, by go_num, HS9.next (by omega) (by rw [ROUND.out, if_neg (by rw [PL.out]; simp), if_neg (by rw [EH.out]; simp), if_neg (by rw [BH.out]; simp)])⟩
                  case measure =>
                    rw [Z2.out, n2]
                    simp [intOf, lenOf]
                    omega
                | true =>
                  have m0 := HS9.out.var.c0
                  have m1 := HS9.out.var.c1
                  have m2 := HS9.out.var.c2
                  have f0 := HS9.out.var.f0
                  have f1 := HS9.out.var.f1
                  have f2 := HS9.out.var.f2
                  have y0 := keep h9 y0
                  have y1 := keep h9 y1
                  have y2 := keep h9 y2
                  have FIN := HS9.out.cut hlt9 (NN8.out.ext h9) (RR8.out.keep h9) PL.out (by rw [ROUND.out, if_neg (by rw [PL.out]; simp), if_neg (by rw [EH.out]; simp), if_pos BH.out])
                  have n2 := FIN.var.c2
                  have FH := Lib.hid FIN
                  have N2 := Lib.hid n2
                  clear FIN n2
                  go_wp2
                  go_roundw
                  case rel => exact ⟨less out i, i, a3, n3, c3, a7, nb3 - 1, c7, by go_num, FH.out⟩
                  case measure =>
                    have hm := N2.out
                    rw [Z2.out]
                    first | rw [hm] | skip
                    simp [intOf, lenOf]
                    omega
              · have h0' : (E != 0) = true := by simpa using h0
                have v0 := HS9.out.res.c0
                have v1 := HS9.out.res.c1
                have v2 := HS9.out.res.c2
                have f0 := HS9.out.res.f0
                have f1 := HS9.out.res.f1
                have f2 := HS9.out.res.f2
                dsimp only [noRule] at v0
                go_wp2
                have P := HS9.out.res.put noRule none 0 0 none 0 0
                have S0 := P.c0
                have S1 := P.c1
                have S2 := P.c2
                dsimp only [noRule] at S0 S1 S2
                have E6 : Ext w (((w9.setCell ⟨w.heap.size + 1, 0, none⟩ (.string ⟨#[]⟩)).setCell ⟨w.heap.size + 1, 1, none⟩ (.slice none 0 0)).setCell ⟨w.heap.size + 1, 2, none⟩ (.slice none 0 0)) := ext_set (ext_set (ext_set HS9.out.old (Nat.le_succ _) _) (Nat.le_succ _) _) (Nat.le_succ _) _
                clear P
                generalize (((w9.setCell ⟨w.heap.size + 1, 0, none⟩ (.string ⟨#[]⟩)).setCell ⟨w.heap.size + 1, 1, none⟩ (.slice none 0 0)).setCell ⟨w.heap.size + 1, 2, none⟩ (.slice none 0 0)) = W6 at S0 S1 S2 E6 ⊢
                refine bodyPost_ret (by simp [results, Try.results29, go_sem, S0, S1, S2]; try rfl) rfl ?_
                obtain rfl : R = (E, none) := by rw [ROUND.out, if_neg (by rw [PL.out]; simp), if_pos (by rw [EH.out]; exact h0), EH.out]
                exact ⟨none, 0, 0, none, 0, 0, rfl, noRuleV _, noNewR _ _ _, E6⟩
end Go.Proofs.Ytcphjfggjjonpaa
