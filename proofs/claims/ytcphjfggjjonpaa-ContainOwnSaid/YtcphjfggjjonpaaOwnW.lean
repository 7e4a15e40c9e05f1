/- The walk of the law ContainOwn. -/
import Derived.Test.YtcphjfggjjonpaaAllX
import Derived.Test.YtcphjfggjjonpaaPrun
import Derived.Test.YtcphjfggjjonpaaLays
namespace Go.Proofs.Ytcphjfggjjonpaa
open Go.ChangeShapes Go.WideShapes Go.ChangeAt Go.RowKit
theorem laid_row {r s : Rule} {w w' : World} {a : Option Addr} {n cap : Nat} (h : LaidOut r s w (.slice a n cap) w') (hs : s.body.length ≤ 1353245080303) : (∃ xs, w'.ownsRow w.heap.size 3 1 (.slice a n cap) n xs) ∧ n ≤ 1353245080303 := by
  obtain ⟨_, h2, h3⟩ := h
  cases hl : (laid r s).2 with
  | none =>
    cases h2 hl
    exact ⟨⟨[], World.ownsRow_nil _ _ _ _⟩, Nat.zero_le _⟩
  | some l =>
    have ho := h3 l hl
    obtain ⟨_, _, e, _⟩ := own_form ho
    cases e
    exact ⟨⟨_, ho⟩, by rw [(laid_good hl).1]; exact hs⟩
theorem ints_row {w : World} {a : Option Addr} {n : Nat} {xs : List Int} (h : IntsAt w a n xs) : (xs.map fun x => Value.int .i64 x).length = n * 1 ∧ (∀ ad, a = some ad → ∀ j u, (xs.map fun x => Value.int .i64 x)[j]? = some u → w.cell? (ad.add j) = some u) ∧ ∀ u ∈ xs.map fun x => Value.int .i64 x, u.oneCell' = true := by
  refine ⟨by rw [List.length_map, h.2.1, Nat.mul_one], fun ad e j u hu => ?_, fun u hu => ?_⟩
  · rw [List.getElem?_map] at hu
    obtain ⟨x, hx, rfl⟩ := Option.map_eq_some_iff.1 hu
    obtain ⟨b, off, e2, hc⟩ := h.2.2 j x hx
    rw [e] at e2
    cases e2
    rw [Addr.add_lit]
    simpa [intAt] using hc
  · obtain ⟨x, _, rfl⟩ := List.mem_map.1 hu
    rfl
theorem row_ints {w : World} {base : Nat} {a : Option Addr} {n cap : Nat} {xs : List Int} (h : w.ownsRow base 3 1 (.slice a n cap) n (xs.map fun x => Value.int .i64 x)) (hn : n ≤ maxLen) : IntsAt w a n xs := by
  have hl := h.1
  rw [List.length_map, Nat.mul_one] at hl
  refine ⟨hn, hl, fun i x hx => ?_⟩
  have hi := (List.getElem?_eq_some_iff.1 hx).1
  rcases h.2 with ⟨h1, h0⟩ | ⟨g, c', cur, hv, _⟩
  · omega
  · cases hv
    have := h.cells (g := g) rfl i (.int .i64 x) (by rw [List.getElem?_map, hx]; rfl)
    rw [Addr.add_lit] at this
    exact ⟨g, 0, rfl, by simpa [intAt] using this⟩
theorem row_rules0 {w W : World} {base : Nat} {qs : List RuleQ} {c N : Nat} {lo hi : Nat → Nat} {x : Option Nat} {rs : List Rule} {a a' : Option Addr} {n : Nat} (hrow : w.ownsRow base 27 3 (.slice a' N c) N (flatQ qs)) (hv : Iv w base qs lo hi x) (hm : qs.map (·.1) = rs) (hr : RulesAt W a n rs) : RulesAt w a' n rs := by
  refine ⟨hr.1, hr.2.1, fun i r hi => ?_⟩
  obtain ⟨_, _, q', rfl, _, _, _, _, ok⟩ := ruleIn_at hr hi
  rw [← hm, List.getElem?_map] at hi
  obtain ⟨q, hq, e⟩ := Option.map_eq_some_iff.1 hi
  obtain ⟨g', rfl, h0, h1, h2⟩ := row_cells hrow hq
  have hok : RuleV W q.1 q'.2.1.1 q'.2.1.2.1 q'.2.1.2.2 q'.2.2.1 q'.2.2.2.1 q'.2.2.2.2 := by rw [e]; exact ok
  have := (hv.own i q hq).rule hok
  rw [← e]
  refine ⟨g', 0, rfl, q.2.1.1, q.2.1.2.1, q.2.1.2.2, q.2.2.1, q.2.2.2.1, q.2.2.2.2, ?_, ?_, ?_, this⟩
  · rw [Nat.zero_add]; exact h0
  · rw [Nat.zero_add]; exact h1
  · rw [Nat.zero_add]; exact h2
theorem InSt.form {W : World} {rs : List Rule} {k : Nat} {v : Value} {w : World} (h : InSt W rs k v w) : ∃ a c, v = .slice a k c := by
  obtain ⟨_, _, _, _, _, hrow, _⟩ := h
  obtain ⟨a, c, e, _⟩ := own_form hrow
  exact ⟨a, c, e⟩
theorem AllX.mono {w : World} {lo lo' : Nat} {AX : List RuleX} (h : AllX w lo AX) (hl : lo' ≤ lo) : AllX w lo' AX := ⟨fun X hX => (h.rules X hX).mono hl, h.sep⟩
/-- At a step of a drawn region: the rules of another row. -/
theorem step_push_rules {ops : Array Oper} {o : Oper} {a : Act} {K : Act → World → Prop} {Q : Exit → Act → World → Prop} {E : Prop} (w : World) (base : Nat) (v : Value) (n : Nat) (qs : List RuleQ) (aS : Option Addr) (nS cS : Nat) (qS : List RuleQ) (hown : w.ownsRow base 27 3 v n (flatQ qs)) (hnil : aS = none → nS = 0 ∧ cS = 0) (hlen : qS.length = nS) (hsrc : ∀ ad, aS = some ad → ∀ j u, (flatQ qS)[j]? = some u → w.cell? (ad.add j) = some u) (hbig : n + nS ≤ 1000000) (hbase : base ≤ w.heap.size)
    (hgd : o.guard = none) (s x : Operand) (ho : o.op = .call { callee := .builtin .append, args := #[s, x], argTypes := #[55, 55] }) (hs : a.eval s = v) (hx : a.eval x = .slice aS nS cS)
    (h : ∀ v' w', w'.ownsRow base 27 3 v' (n + nS) (flatQ (qs ++ qS)) → w.grownBy w' v.ownBlock → K (a.put o.dst v') w') :
    if Region.wanted o (yielded ops a.tmps) = true then Oper.wp Try.prog o a w K Q else E := by
  obtain ⟨i0, hi, hz0, hz1, hz2⟩ := info_parts info_rule
  have hw : Region.wanted o (yielded ops a.tmps) = true := by simp [Region.wanted, hgd]
  rw [if_pos hw]
  cases aS with
  | none =>
    obtain ⟨rfl, rfl⟩ := hnil rfl
    obtain rfl : qS = [] := List.eq_nil_of_length_eq_zero hlen
    have hrun := run_append_owned_none (P := Try.prog) (w := w) base 55 o.type 27 i0 3 Try.underlying55 hi v n (flatQ qs) hown
    unfold Oper.wp
    simp [execOp, ho, resolve, invoke, builtin, hs, hx, hrun, Result.andThen]
    exact h v w (by simpa using hown) ⟨rfl, rfl, rfl, Nat.le_refl _, fun _ _ _ => rfl⟩
  | some ad =>
    refine wp_append_own w s x 55 ho base 27 i0 (.agg #[.string ⟨#[]⟩, .slice none 0 0, .slice none 0 0]) 3 64 Try.underlying55 hi hz0 hz1 hz2 rfl (by decide) v n (flatQ qs) hs hown ad nS cS (flatQ qS) hx (by rw [flatQ_len, hlen]) (hsrc ad rfl) (flatQ_one qS) (by unfold maxLen; omega) (by omega) hbase fun v' w' h1 h2 _ => h v' w' ?_ h2
    rw [flatQ_append]
    exact h1
theorem keepA {W w : World} (hb : Ext W w) {a : Addr} {v : Value} (h : W.cell? a = some v) : w.cell? a = some v := by
  rw [← h]
  exact hb.cell (World.block_lt_of_cell? W a h)
theorem ext_of_but {w x z : World} {S : Nat → Prop} (h1 : Ext w x) (h2 : ButS S x z) (hs : ∀ b, b < w.heap.size → ¬ S b) : Ext w z :=
  ⟨h2.os.trans h1.os, h2.tape.trans h1.tape, h2.output.trans h1.output, Nat.le_trans h1.size h2.size, fun i hi => (h2.block i (Nat.lt_of_lt_of_le hi h1.size) (hs i hi)).trans (h1.block i hi)⟩
theorem own_src {w : World} {base n size : Nat} {e : TypeId} {a : Option Addr} {c : Nat} {xs : List Value} (h : w.ownsRow base e size (.slice a n c) n xs) : ∀ ad, a = some ad → ∀ j u, xs[j]? = some u → w.cell? (ad.add j) = some u := by
  intro ad e' j u hu
  rcases h.2 with ⟨h1, _⟩ | ⟨g, c', cur, hv, _⟩
  · cases h1
    cases e'
  · cases hv
    cases e'
    exact h.cells (g := g) rfl j u hu
/-- In the row v lie the rows of ls, one behind another; all else is as it was. -/
structure RowOf (W : World) (e : TypeId) (ls : List LRow) (v : Value) (w : World) : Prop where
  old : Ext W w
  row : w.ownsRow W.heap.size e 1 v ls.length (ls.map (·.v))
theorem RowOf.nil (W : World) (e : TypeId) : RowOf W e [] (.slice none 0 0) W := ⟨Below.refl _ _, World.ownsRow_nil _ _ _ _⟩
theorem RowOf.push {W w w' : World} {e : TypeId} {ls : List LRow} {l : LRow} {a : Option Addr} {c g c' : Nat} {o : Obj} (h : RowOf W e ls (.slice a ls.length c) w) (r1 : w'.ownsRow W.heap.size e 1 (.slice (some ⟨g, 0, none⟩) (ls.length + 1) c') (ls.length + 1) (ls.map (·.v) ++ [l.v])) (r2 : (w.alloc o).grownBy w' (Value.slice a ls.length c).ownBlock) : RowOf W e (ls ++ [l]) (.slice (some ⟨g, 0, none⟩) (ls.length + 1) c') w' := by
  refine ⟨ext_ownB (ext_alloc h.old _) r2 (fun b e => (h.row.lt b e).1), ?_⟩
  rw [List.length_append, List.map_append]
  exact r1
theorem RowOf.form {W w : World} {e : TypeId} {ls : List LRow} {v : Value} (h : RowOf W e ls v w) : ∃ a c, v = .slice a ls.length c := by
  obtain ⟨a, c, e', _⟩ := own_form h.row
  exact ⟨a, c, e'⟩
def elI (k : Nat) : List Value := [.int .i64 (k : Int)]
set_option maxRecDepth 100000 in
set_option maxHeartbeats 40000000 in
theorem c_ownLaw (r s : Rule) (ah : Option Addr) (nh ch : Nat) (ab : Option Addr) (nb cb : Nat) (ah' : Option Addr) (nh' ch' : Nat) (ab' : Option Addr) (nb' cb' : Nat) (rs : List Rule) (ap : Option Addr) (np cp : Nat) (w : World) (hr : RuleV w r ah nh ch ab nb cb) (hs : RuleV w s ah' nh' ch' ab' nb' cb') (hp : RulesAt w ap np rs) :
    Calls Try.prog 9 #[.agg #[.string r.head.pred, .slice ah nh ch, .slice ab nb cb], .agg #[.string s.head.pred, .slice ah' nh' ch', .slice ab' nb' cb'], .agg #[.slice ap np cp]] w fun e w' => e = .returned (.bool true) ∧ Ext w w' := by
  have HR := Lib.hid hr
  have HS := Lib.hid hs
  have HP := Lib.hid hp
  have HRB := Lib.hid (RuleB.of hr)
  have HSB := Lib.hid (RuleB.of hs)
  clear hr hs hp
  obtain ⟨j0, jj, jj0, jj1, jj2⟩ := info_parts info_rule
  obtain ⟨i0, ii, ii0, ii1, ii2⟩ := info_parts info_int
  go_enter Try.func9, Try.ntmps9
  go_upto_region 1 with (fail)
  refine wp_gen (fun W hW => ?_)
  have hb00 : Ext w W := by rw [hW]; go_grown
  have x00 : W.cell? ⟨w.heap.size, 0, none⟩ = some (.string r.head.pred) := by rw [hW]; go_simp
  have x01 : W.cell? ⟨w.heap.size, 1, none⟩ = some (.slice ah nh ch) := by rw [hW]; go_simp
  have x02 : W.cell? ⟨w.heap.size, 2, none⟩ = some (.slice ab nb cb) := by rw [hW]; go_simp
  have y00 : W.cell? ⟨w.heap.size + 1, 0, none⟩ = some (.string s.head.pred) := by rw [hW]; go_simp
  have y01 : W.cell? ⟨w.heap.size + 1, 1, none⟩ = some (.slice ah' nh' ch') := by rw [hW]; go_simp
  have y02 : W.cell? ⟨w.heap.size + 1, 2, none⟩ = some (.slice ab' nb' cb') := by rw [hW]; go_simp
  have p00 : W.cell? ⟨w.heap.size + 2, 0, none⟩ = some (.slice ap np cp) := by rw [hW]; go_simp
  clear hW
  go_upto_region 3 with (go_at_call 10; (with_reducible refine (c_known _).mono ?_); rintro e wk ⟨rfl, hk⟩)
  have hb0 := ext_trans hb00 hk
  have x0 := keep hk x00
  have x1 := keep hk x01
  have x2 := keep hk x02
  have y0 := keep hk y00
  have y1 := keep hk y01
  have y2 := keep hk y02
  have p0 := keep hk p00
  clear x00 x01 x02 y00 y01 y02 p00 hb00 hk
  have hd : Ext wk wk.drew := ext_drew (Below.refl _ _)
  have hz : w.heap.size + 1 < wk.heap.size := World.block_lt_of_cell? _ _ y0
  have hzp : w.heap.size + 2 < wk.heap.size := World.block_lt_of_cell? _ _ p0
  have hzz : w.heap.size < wk.heap.size := by omega
  go_cut [7, 8] (fun v5 v6 wc => ∃ pa pb gh c1 gb c2 gh' c1' gb' c2', v5 = .pointer (some ⟨pa, 0, none⟩) ∧ v6 = .pointer (some ⟨pb, 0, none⟩) ∧ (∀ b o, b < wk.heap.size → wc.cell? ⟨b, o, none⟩ = wk.cell? ⟨b, o, none⟩) ∧ Ext w wc ∧ OwnR wc w.heap.size r gh c1 gb c2 ∧ OwnR wc w.heap.size s gh' c1' gb' c2' ∧
    (wc.cell? ⟨pa, 0, none⟩ = some (.string r.head.pred) ∧ wc.cell? ⟨pa, 1, none⟩ = some (.slice (some ⟨gh, 0, none⟩) nh c1) ∧ wc.cell? ⟨pa, 2, none⟩ = some (.slice (some ⟨gb, 0, none⟩) nb c2)) ∧
    (wc.cell? ⟨pb, 0, none⟩ = some (.string s.head.pred) ∧ wc.cell? ⟨pb, 1, none⟩ = some (.slice (some ⟨gh', 0, none⟩) nh' c1') ∧ wc.cell? ⟨pb, 2, none⟩ = some (.slice (some ⟨gb', 0, none⟩) nb' c2')))
  case first =>
    go_region_held3 (fun w' => ∀ b o, b < wk.heap.size → w'.cell? ⟨b, o, none⟩ = wk.cell? ⟨b, o, none⟩)
      ((intro bb oo hbb; repeat (first | (with_reducible rfl) | (with_reducible rw [World.cell?_drew]) | ((with_reducible refine (hc7 bb oo ?_).trans ?_); · (first | omega | (simp; done) | (simp; omega))) | ((with_reducible refine (hc6 bb oo ?_).trans ?_); · (first | omega | (simp; done) | (simp; omega))) | ((with_reducible refine (World.cell?_alloc_lt _ _ _ ?_).trans ?_); · (show bb < _; (first | omega | (simp; done) | (simp; omega)))) | ((with_reducible refine (World.cell?_setCell_far _ _ _ _ ?_).trans ?_); · (show _ ≠ bb; (first | omega | (simp; done) | (simp; omega)))))))
      (first
        | (go_at_call 12; (with_reducible refine (c_own r _ _ _ _ _ _ _ (HR.out.keep (by repeat (with_reducible (first | exact hb0 | apply ext_drew | apply ext_alloc | refine ext_trans ?_ h7))))).mono ?_); rintro e w6 ⟨g1, c1, g2, c2, rfl, O6, h6⟩; obtain ⟨hc6, hf6⟩ := bcell2 h6; have hz6 := h6.size; (try simp at hz6); (try have l1 : wk.heap.size < w6.heap.size := by omega); (try have l2 : wk.heap.size + 1 < w6.heap.size := by omega))
        | (go_at_call 12; (with_reducible refine (c_own s _ _ _ _ _ _ _ (HS.out.keep (by repeat (with_reducible (first | exact hb0 | apply ext_drew | apply ext_alloc | refine ext_trans ?_ h6))))).mono ?_); rintro e w7 ⟨g3, c3, g4, c4, rfl, O7, h7⟩; obtain ⟨hc7, hf7⟩ := bcell2 h7; have hz7 := h7.size; (try simp at hz7); (try have l3 : wk.heap.size < w7.heap.size := by omega); (try have l4 : wk.heap.size + 1 < w7.heap.size := by omega); (try have l5 : w6.heap.size < w7.heap.size := by omega); (try have l6 : w6.heap.size + 1 < w7.heap.size := by omega); (try have n1 : w6.heap.size ≠ wk.heap.size := by omega); (try have n2 : ¬ w6.heap.size = wk.heap.size + 1 := by omega))
        | fail)
    all_goals
      go_wp2
      go_meet
      refine ⟨_, _, g1, c1, g2, c2, g3, c3, g4, c4, rfl, rfl, by assumption, ?_, ?_, ?_, ⟨?_, ?_, ?_⟩, ⟨?_, ?_, ?_⟩⟩
      · (repeat (first | ((with_reducible refine ext_set ?_ (p := ⟨_, _, none⟩) ?_ _); rotate_left; · (dsimp only; (first | omega | (simp; done) | (simp; omega)))) | (with_reducible exact hb0) | (with_reducible refine ext_trans ?_ h7) | (with_reducible refine ext_trans ?_ h6) | (with_reducible apply ext_alloc) | (with_reducible apply ext_drew)))
      · (refine O6.same ?_ ?_; (· (first | omega | (simp; done) | (simp; omega))); repeat (first | ((with_reducible refine HeapSame.set ?_ (p := ⟨_, _, none⟩) ?_ _); rotate_left; · (dsimp only; first | exact .inl (by (first | omega | (simp; done) | (simp; omega))) | exact .inr (by (first | omega | (simp; done) | (simp; omega))))) | (with_reducible exact HeapSame.refl _ _ _) | ((with_reducible refine HeapSame.ext ?_ ?_ h7); rotate_left; · (first | omega | (simp; done) | (simp; omega))) | ((with_reducible refine HeapSame.alloc ?_ ?_ _); rotate_left; · (first | omega | (simp; done) | (simp; omega))) | (with_reducible apply HeapSame.drew)))
      · (refine O7.same ?_ ?_; (· (first | omega | (simp; done) | (simp; omega))); repeat (first | ((with_reducible refine HeapSame.set ?_ (p := ⟨_, _, none⟩) ?_ _); rotate_left; · (dsimp only; first | exact .inl (by (first | omega | (simp; done) | (simp; omega))) | exact .inr (by (first | omega | (simp; done) | (simp; omega))))) | (with_reducible exact HeapSame.refl _ _ _) | ((with_reducible refine HeapSame.ext ?_ ?_ h6); rotate_left; · (first | omega | (simp; done) | (simp; omega))) | ((with_reducible refine HeapSame.alloc ?_ ?_ _); rotate_left; · (first | omega | (simp; done) | (simp; omega))) | (with_reducible apply HeapSame.drew)))
      all_goals (repeat (first | (with_reducible rfl) | (with_reducible rw [World.cell?_drew]) | ((with_reducible refine (World.cell?_alloc_at _ _ _ _ ?_).trans ?_); (· (first | omega | (simp; done) | (simp; omega))); (· rfl)) | ((with_reducible refine (World.cell?_alloc_lt _ _ _ ?_).trans ?_); · (show _ < _; (first | omega | (simp; done) | (simp; omega)))) | (with_reducible apply World.cell?_setCell_same) | ((with_reducible refine (World.cell?_setCell_other _ _ _ _ ?_).trans ?_); · (simp; done)) | ((with_reducible refine (World.cell?_setCell_far _ _ _ _ ?_).trans ?_); · (show _ ≠ _; (first | omega | (simp; done) | (simp; omega)))) | ((with_reducible refine (hc7 _ _ ?_).trans ?_); · (first | omega | (simp; done) | (simp; omega))) | ((with_reducible refine (hc6 _ _ ?_).trans ?_); · (first | omega | (simp; done) | (simp; omega)))))
  case rest =>
    obtain ⟨pa, pb, gh, c1, gb, c2, gh', c1', gb', c2', rfl, rfl, hWc, hE, OA, OB, ⟨a0, a1, a2⟩, ⟨b0, b1, b2⟩⟩ := hcut
    have HA := Lib.hid (OA.rule HR.out)
    have HB := Lib.hid (OB.rule HS.out)
    have HOA := Lib.hid OA
    have HOB := Lib.hid OB
    have HE := Lib.hid hE
    have X0 := Lib.hid (hWc _ _ hzz |>.trans x0)
    have X1 := Lib.hid (hWc _ _ hzz |>.trans x1)
    have X2 := Lib.hid (hWc _ _ hzz |>.trans x2)
    have Y0 := Lib.hid (hWc _ _ hz |>.trans y0)
    have Y1 := Lib.hid (hWc _ _ hz |>.trans y1)
    have Y2 := Lib.hid (hWc _ _ hz |>.trans y2)
    have P0 := Lib.hid (hWc _ _ hzp |>.trans p0)
    have A0 := Lib.hid a0
    have A1 := Lib.hid a1
    have A2 := Lib.hid a2
    have B0 := Lib.hid b0
    have B1 := Lib.hid b1
    have B2 := Lib.hid b2
    clear hWc OA OB hE hd hb0 x0 x1 x2 y0 y1 y2 p0 hz hzp hzz
    go_upto_region 5 with (go_at_call 11; (with_reducible refine (c_Laid2 r s _ _ _ _ _ _ _ _ _ _ _ _ wc HA.out HB.out).mono ?_); rintro e w1 ⟨t1, n1, k1, rfl, h1, lo1⟩)
    obtain ⟨⟨xa, rowa⟩, hna⟩ := laid_row lo1 HSB.out.nb
    have RA := Lib.hid rowa
    have a0 := keep h1 A0.out
    have a1 := keep h1 A1.out
    have a2 := keep h1 A2.out
    have b0 := keep h1 B0.out
    have b1 := keep h1 B1.out
    have b2 := keep h1 B2.out
    have E1 := Lib.hid h1
    clear rowa lo1
    go_upto_region 6 with (go_at_call 11; (with_reducible refine (c_Laid2 r s _ _ _ _ _ _ _ _ _ _ _ _ w1 (HA.out.keep h1) (HB.out.keep h1)).mono ?_); rintro e w2 ⟨t2, n2, k2, rfl, h2, lo2⟩)
    obtain ⟨⟨xb, rowb⟩, hnb⟩ := laid_row lo2 HSB.out.nb
    have RB := Lib.hid rowb
    have I2 := laid_ints lo2
    have I2H := Lib.hid I2
    obtain ⟨il, ic, io⟩ := ints_row (I2.keep (ext_alloc (Below.refl _ _) (.cells #[] 3)))
    have IL := Lib.hid il
    have IC := Lib.hid ic
    have IO := Lib.hid io
    have hcap2 := cap_of_own rowb
    have HC2 := Lib.hid hcap2
    have E2 := Lib.hid (ext_trans h1 h2)
    have LB2 := Lib.hid h2.size
    have E12 := Lib.hid h2
    have hown0 : (w2.alloc (.cells #[] 3)).ownsRow w2.heap.size 3 1 (.slice (some ⟨w2.heap.size, 0, none⟩) 0 0) 0 [] := World.ownsRow_lit w2 #[] 0 (Nat.le_refl _) (by unfold maxLen; omega) rfl
    have HO0 := Lib.hid hown0
    have Q1 : Hid (0 + n2 ≤ maxLen) := by show _ ≤ _; unfold maxLen; omega
    have Q2 : Hid ((0 + n2) * 8 ≤ 140737488355328) := by show _ ≤ _; omega
    clear rowb lo2 I2 il ic io hcap2 hown0 a0 a1 a2 b0 b1 b2 h1 h2
    go_upto_region 7 with (at_builtin; go_loud (refine wpList_append_any rfl _ _ 29 rfl w2.heap.size 3 i0 (.int .i64 0) 1 8 Try.underlying29 ii ii0 ii1 ii2 rfl (by decide) _ _ _ rfl HO0.out t2 n2 k2 ((laidInts r s).map fun x => Value.int .i64 x) rfl HC2.out.2 IL.out IC.out IO.out Q1.out Q2.out (size_alloc_le (Nat.le_refl _)) ?_); intro v3 w3 own3 g3)
    obtain ⟨t3, k3, rfl, _⟩ := own_form own3
    rw [Nat.zero_add, List.nil_append] at own3
    have h3 : Ext w2 w3 := ext_ownB (ext_alloc (Below.refl _ w2 : Ext w2 w2) _) g3 (by intro g e; cases e; exact Nat.le_refl _)
    have RW3 := Lib.hid own3
    have E3 := Lib.hid (ext_trans E2.out h3)
    have E23 := Lib.hid h3
    have a0 := keep E3.out A0.out
    have a1 := keep E3.out A1.out
    have a2 := keep E3.out A2.out
    clear own3 g3 h3 Q1 Q2
    obtain ⟨M, hM⟩ : ∃ M, minimal r = M := ⟨_, rfl⟩
    have HM := Lib.hid hM
    clear hM
    go_upto_region 8 with (go_at_call 29; (with_reducible refine (c_MinimalN r _ _ _ _ _ _ w3 (HA.out.keep E3.out)).mono ?_); rw [HM.out]; rintro e w4 ⟨a4, n4, q4, b4, m4, o4, rfl, R4, N4, h4⟩; have R4 := Lib.hid R4; have N4 := Lib.hid N4)
    refine wp_gen (fun W4 hW4 => ?_)
    have e4 : Ext w4 W4 := by rw [hW4]; exact ext_alloc (Below.refl _ _) _
    have m0 : W4.cell? ⟨w4.heap.size, 0, none⟩ = some (.string (M.2.getD noRule).head.pred) := by rw [hW4]; go_simp
    have m1 : W4.cell? ⟨w4.heap.size, 1, none⟩ = some (.slice a4 n4 q4) := by rw [hW4]; go_simp
    have m2 : W4.cell? ⟨w4.heap.size, 2, none⟩ = some (.slice b4 m4 o4) := by rw [hW4]; go_simp
    have E4 := Lib.hid (ext_trans E3.out (ext_trans h4 e4))
    have E34 := Lib.hid (ext_trans h4 e4)
    have EE4 := Lib.hid e4
    have LM4 := Lib.hid h4.size
    have a0 := keep E4.out A0.out
    have a1 := keep E4.out A1.out
    have a2 := keep E4.out A2.out
    have M0 := Lib.hid m0
    have M1 := Lib.hid m1
    have M2 := Lib.hid m2
    obtain ⟨pm, hpm⟩ : ∃ b, b = w4.heap.size := ⟨_, rfl⟩
    rw [← hpm] at M0 M1 M2 ⊢
    clear hW4 h4 e4 m0 m1 m2 hpm
    go_upto_region 9 with (go_at_call 29; (with_reducible refine (c_MinimalN r _ _ _ _ _ _ W4 (HA.out.keep E4.out)).mono ?_); rw [HM.out]; rintro e w5 ⟨a5, n5, q5, b5, m5, o5, rfl, R5, N5, h5⟩; have R5 := Lib.hid R5; have N5 := Lib.hid N5)
    refine wp_gen (fun W5 hW5 => ?_)
    have e5 : Ext w5 W5 := by rw [hW5]; exact ext_alloc (Below.refl _ _) _
    have n0 : W5.cell? ⟨w5.heap.size, 0, none⟩ = some (.string (M.2.getD noRule).head.pred) := by rw [hW5]; go_simp
    have n1' : W5.cell? ⟨w5.heap.size, 1, none⟩ = some (.slice a5 n5 q5) := by rw [hW5]; go_simp
    have n2' : W5.cell? ⟨w5.heap.size, 2, none⟩ = some (.slice b5 m5 o5) := by rw [hW5]; go_simp
    have E5 := Lib.hid (ext_trans E4.out (ext_trans h5 e5))
    have E35 := Lib.hid (ext_trans E34.out (ext_trans h5 e5))
    have E45 := Lib.hid (ext_trans h5 e5)
    have EE5 := Lib.hid e5
    have LM5 := Lib.hid h5.size
    have NN0 := Lib.hid n0
    have NN1 := Lib.hid n1'
    have NN2 := Lib.hid n2'
    obtain ⟨pn, hpn⟩ : ∃ b, b = w5.heap.size := ⟨_, rfl⟩
    rw [← hpn] at NN0 NN1 NN2 ⊢
    have HPN := Lib.hid hpn
    clear hW5 h5 e5 n0 n1' n2' a0 a1 a2 hpn
    -- the two least rules
    obtain ⟨ps4, AX4⟩ := AllX.one (q := (M.2.getD noRule, (a4, n4, q4), (b4, m4, o4))) (show newQ w4 _ _ _ from N4.out)
    obtain ⟨ps5, AX5⟩ := AllX.one (q := (M.2.getD noRule, (a5, n5, q5), (b5, m5, o5))) (show newQ w5 _ _ _ from N5.out)
    have AXM : AllX W5 w3.heap.size ([((M.2.getD noRule, (a4, n4, q4), (b4, m4, o4)), ps4)] ++ [((M.2.getD noRule, (a5, n5, q5), (b5, m5, o5)), ps5)]) :=
      AllX.append (m := W4.heap.size + 2) (AX4.mono (Nat.le_add_right _ 2)) ((AX4.ext (ext_trans EE4.out E45.out)).mono (Nat.le_add_right _ 2)) (AX5.ext EE5.out) (by have := EE4.out.size; omega) (by have := E34.out.size; omega)
    have HAXM := Lib.hid AXM
    have HBM := Lib.hid (RuleB.of R4.out)
    have XP5 := Lib.hid (HP.out.keep (ext_trans HE.out E5.out))
    have PP5 := Lib.hid (keep E5.out P0.out)
    have EH5 := Lib.hid (ext_trans HE.out E5.out)
    clear AX4 AX5 AXM
    go_wp2
    go_loopw [20, 21] (fun v20 v21 wj => ∃ k : Nat, k ≤ np ∧ v21 = .int .i64 (k : Int) ∧ InSt W5 rs k v20 wj) (fun _ v _ => np - (intOf v).toNat)
    case atStart => exact ⟨0, by omega, rfl, ⟨Below.refl _ _, [], fun _ => 0, fun _ => 0, rfl, World.ownsRow_nil _ _ _ _, Iv.nil _ _ _ _ _⟩⟩
    case round =>
      obtain ⟨k, hk, rfl, hst⟩ := hrel
      obtain ⟨a3, c3, rfl⟩ := hst.form
      have z1 := keep hst.old PP5.out
      have HST := Lib.hid hst
      have HN := Lib.hid HP.out.1
      by_cases hlt : k < np
      · obtain ⟨x, hx⟩ : ∃ x, rs[k]? = some x := ⟨_, List.getElem?_eq_getElem (by rw [HP.out.2.1]; omega)⟩
        obtain ⟨g, off, q, rfl, rfl, k0, k1, k2, okq⟩ := ruleIn_at (XP5.out.keep hst.old) hx
        have OQ : Hid (RuleV wr q.1 q.2.1.1 q.2.1.2.1 q.2.1.2.2 q.2.2.1 q.2.2.2.1 q.2.2.2.2) := okq
        have HRK := Lib.hid hx
        have hki : (k : Int) < (np : Int) := by omega
        clear hst hx okq
        go_upto_region 14 with (go_at_call 12; (with_reducible refine (c_own q.1 _ _ _ _ _ _ wr OQ.out).mono ?_); rintro e w6 ⟨g1, d1, g2, d2, rfl, O1, h1⟩; have O1 := Lib.hid O1)
        refine wp_gen (fun W6 hW6 => ?_)
        have e4 : Ext w6 W6 := by rw [hW6]; exact ext_alloc (Below.refl _ _) _
        have b0 : W6.cell? ⟨w6.heap.size, 0, none⟩ = some (.string q.1.head.pred) := by rw [hW6]; go_simp
        have b1 : W6.cell? ⟨w6.heap.size, 1, none⟩ = some (.slice (some ⟨g1, 0, none⟩) q.2.1.2.1 d1) := by rw [hW6]; go_simp
        have b2 : W6.cell? ⟨w6.heap.size, 2, none⟩ = some (.slice (some ⟨g2, 0, none⟩) q.2.2.2.1 d2) := by rw [hW6]; go_simp
        obtain ⟨hold, qs, lo, hi, hmap, hrow, hiv⟩ := HST.out
        have e14 := ext_trans h1 e4
        have HROW := Lib.hid (up_ext hrow e14)
        have HXL := Lib.hid (fun b e => (hrow.lt b e).2 : ∀ b, (Value.slice a3 k c3).ownBlock = some b → b < wr.heap.size)
        have HIV := Lib.hid hiv
        have HMAP := Lib.hid hmap
        have H1 := Lib.hid h1
        have H4 := Lib.hid e4
        have HOLD := Lib.hid hold
        have HLO : Hid (W5.heap.size ≤ W6.heap.size) := (ext_trans hold e14).size
        have HBIG : Hid (k + 1 ≤ 2199023255488) := by show _ ≤ _; have := HN.out; omega
        have F1 : Hid (q.1.head.terms.length = q.2.1.2.1) := OQ.out.terms.2.1
        have F2 : Hid (q.1.body.length = q.2.2.2.1) := OQ.out.body.2.1
        clear hW6 hold hmap hrow hiv h1 e4 e14 k0 k1 k2
        have hnn := HN.out
        go_wp2_with (at_builtin; go_loud (refine wpList_append_lies _ rfl _ _ 55 rfl W5.heap.size 27 j0 (.agg #[.string ⟨#[]⟩, .slice none 0 0, .slice none 0 0]) 3 64 Try.underlying55 jj jj0 jj1 jj2 rfl (by decide) (.slice a3 k c3) k (flatQ qs) rfl (HROW.out.alloc _) ⟨W6.heap.size, 0, none⟩ 1 1 (valsQ (q.1, (some ⟨g1, 0, none⟩, q.2.1.2.1, d1), (some ⟨g2, 0, none⟩, q.2.2.2.1, d2))) rfl rfl (news_three _ _ _ _ _) (fun u hu => flatQ_one [_] u (by simpa [flatQ] using hu)) (Nat.zero_lt_one) (by have := HBIG.out; unfold maxLen; omega) (by have := HBIG.out; omega) (size_alloc_le HLO.out) _ rfl ?_); intro g7 p7 w7 own7 q7 hat7 hlt7)
        rw [← flatQ_snoc] at own7
        have hx7 : (Value.slice a3 k c3).ownBlock = some g7 ∨ w6.heap.size ≤ g7 := hat7.imp id (fun e => by rw [e]; have := H4.out.size; simp; omega)
        have hst : InSt W5 rs (k + 1) (.slice (some ⟨g7, 0, none⟩) (k + 1) p7) w7 := by
          refine ⟨ext_ownB (ext_alloc (ext_trans HOLD.out (ext_trans H1.out H4.out)) _) q7 (fun g e => (HROW.out.lt g e).1), qs ++ [(q.1, (some ⟨g1, 0, none⟩, q.2.1.2.1, d1), (some ⟨g2, 0, none⟩, q.2.2.2.1, d2))], _, _, ?_, own7, HIV.out.push H1.out H4.out q7 hx7 HOLD.out.size HXL.out ?_⟩
          · rw [List.map_append, HMAP.out, take_at HRK.out]
            rfl
          · refine ⟨w6, g1, d1, g2, d2, ?_, O1.out, rfl, HeapSame.refl _ _ _⟩
            show _ = ((_, q.1.head.terms.length, _), (_, q.1.body.length, _))
            rw [F1.out, F2.out]
        have HS7 := Lib.hid hst
        clear hst hx7 own7 q7 hat7 hlt7
        go_roundw
        case rel => exact ⟨k + 1, by omega, by go_num, HS7.out⟩
        case measure => simp [intOf]; omega
      · obtain rfl : k = np := by omega
        have hge : ¬ (k : Int) < (k : Int) := by omega
        clear hst
        obtain ⟨hold, qs, lo, hi_, hmap, hrow, hiv⟩ := HST.out
        have hqm : qs.map (·.1) = rs := by rw [hmap]; exact List.take_of_length_le (by rw [HP.out.2.1]; exact Nat.le_refl _)
        have HROW := Lib.hid hrow
        have HIV := Lib.hid hiv
        have HMAP := Lib.hid hqm
        have HOLD := Lib.hid hold
        have RA3 : Hid (RulesAt wr a3 k rs) := row_rules0 hrow hiv hqm HP.out
        have HC3 := Lib.hid (cap_of_own hrow)
        obtain ⟨R, hR⟩ : ∃ R, prune rs = R := ⟨_, rfl⟩
        have P1 : Hid (Calls Try.prog 25 #[.agg #[.slice a3 k c3]] wr (PrunePost R wr)) := by show Calls _ _ _ _ _; rw [← hR]; exact c_Prune rs _ k c3 wr RA3.out HC3.out
        have RS : Hid ((R.2.getD []).length ≤ 1024 ∧ ∀ r ∈ R.2.getD [], r.body.length ≤ 64) := by show _ ∧ _; rw [← hR]; exact prune_small rs
        have HRR := Lib.hid hR
        clear hold hmap hrow hiv hqm hR
        go_upto_region 16 with (go_at_call 25; (with_reducible refine P1.out.mono ?_); rintro e w8 ⟨aQ, nQ, cQ, qQ, rfl, hnQ, hmQ, hbQ, NQ, h8⟩; have NQ := Lib.hid NQ; have hbQ := Lib.hid hbQ; have hmQ := Lib.hid hmQ)
        refine wp_gen (fun W8 hW8 => ?_)
        have e8 : Ext w8 W8 := by rw [hW8]; exact ext_alloc (Below.refl _ _) _
        have u0 : W8.cell? ⟨w8.heap.size, 0, none⟩ = some (.slice aQ nQ cQ) := by rw [hW8]; go_simp
        have E8 := Lib.hid (ext_trans h8 e8)
        have L8 := Lib.hid h8.size
        have EE8 := Lib.hid e8
        have UQ := Lib.hid u0
        have P2 : Hid (Calls Try.prog 25 #[.agg #[.slice a3 k c3]] W8 (PrunePost R W8)) := by show Calls _ _ _ _ _; rw [← HRR.out]; exact c_Prune rs _ k c3 W8 (RA3.out.keep E8.out) HC3.out
        obtain ⟨pq, hpq⟩ : ∃ b, b = w8.heap.size := ⟨_, rfl⟩
        rw [← hpq] at UQ ⊢
        have HPQ := Lib.hid hpq
        have HNQ := Lib.hid hnQ
        clear hW8 e8 h8 u0 hpq P1 hnQ
        go_upto_region 17 with (go_at_call 25; (with_reducible refine P2.out.mono ?_); rintro e w9 ⟨aU, nU, cU, qU, rfl, hnU, hmU, hbU, NU, h9⟩; have NU := Lib.hid NU; have hbU := Lib.hid hbU; have hmU := Lib.hid hmU)
        refine wp_gen (fun W9 hW9 => ?_)
        have e9 : Ext w9 W9 := by rw [hW9]; exact ext_alloc (Below.refl _ _) _
        have v0 : W9.cell? ⟨w9.heap.size, 0, none⟩ = some (.slice aU nU cU) := by rw [hW9]; go_simp
        have E89 := Lib.hid (ext_trans h9 e9)
        have L9 := Lib.hid h9.size
        have EE9 := Lib.hid e9
        have UU := Lib.hid v0
        have HNU := Lib.hid hnU
        obtain ⟨pu, hpu⟩ : ∃ b, b = w9.heap.size := ⟨_, rfl⟩
        rw [← hpu] at UU ⊢
        have HPU := Lib.hid hpu
        clear hW9 e9 h9 v0 hpu P2 hnU
        -- all rules that are answered
        obtain ⟨AQ, hAQ, axQ⟩ := AllX.of NQ.out
        obtain ⟨AU, hAU, axU⟩ := AllX.of NU.out
        have eR8 := E8.out
        have e58 : Ext W5 W8 := ext_trans HOLD.out eR8
        have ax1 := AllX.append HAXM.out (HAXM.out.ext e58) (axQ.ext EE8.out) HOLD.out.size (by have := HOLD.out.size; have := E35.out.size; omega)
        have ax2 := AllX.append ax1 (ax1.ext E89.out) (axU.ext EE9.out) (Nat.le_refl _) (by have := e58.size; have := E35.out.size; omega)
        have AX2 := Lib.hid ax2
        have sq0 : pq < W8.heap.size := World.block_lt_of_cell? W8 ⟨pq, 0, none⟩ UQ.out
        have POS : Hid (∀ X ∈ (([((M.2.getD noRule, (a4, n4, q4), (b4, m4, o4)), ps4)] ++ [((M.2.getD noRule, (a5, n5, q5), (b5, m5, o5)), ps5)]) ++ AQ) ++ AU, ∀ l ∈ rowsX X, ∀ b, l.v.ownBlock = some b → ((wc.heap.size ≤ b ∧ b < W5.heap.size) ∨ wr.heap.size ≤ b) ∧ b ≠ pq ∧ b ≠ pu) := fun X hX l hl b hb => by
          have z1 := HOLD.out.size
          have z2 := eR8.size
          have z3 := EE8.out.size
          have z4 := E89.out.size
          have z5 := EE9.out.size
          have z6 := HPQ.out
          have z7 := HPU.out
          have z8 := L8.out
          have z9 := L9.out
          rcases List.mem_append.1 hX with hX | hX
          · rcases List.mem_append.1 hX with hX | hX
            · have h9 := (HAXM.out.rules X hX).lt l hl b hb
              have := E3.out.size
              exact ⟨.inl ⟨by omega, h9.2⟩, by omega, by omega⟩
            · have h9 := (axQ.rules X hX).lt l hl b hb
              exact ⟨.inr h9.1, by omega, by omega⟩
          · have h9 := (axU.rules X hX).lt l hl b hb
            exact ⟨.inr (Nat.le_trans eR8.size h9.1), by omega, by omega⟩
        have SML : Hid (∀ X ∈ (([((M.2.getD noRule, (a4, n4, q4), (b4, m4, o4)), ps4)] ++ [((M.2.getD noRule, (a5, n5, q5), (b5, m5, o5)), ps5)]) ++ AQ) ++ AU, smallX X.1.1) := fun X hX => by
          have hQ : ∀ (A : List RuleX) (qs : List RuleQ), A.map (·.1) = qs → qs.map (·.1) = R.2.getD [] → (∀ q ∈ qs, RuleB q.1) → X ∈ A → smallX X.1.1 := fun A qs e1 e2 e3 hX => by
            have h9 : X.1 ∈ qs := by rw [← e1]; exact List.mem_map.2 ⟨X, hX, rfl⟩
            exact ⟨e3 _ h9, RS.out.2 _ (by rw [← e2]; exact List.mem_map.2 ⟨X.1, h9, rfl⟩)⟩
          rcases List.mem_append.1 hX with hX | hX
          · rcases List.mem_append.1 hX with hX | hX
            · have hms : smallX (M.2.getD noRule) := ⟨HBM.out, by rw [← HM.out]; exact minimal_small r⟩
              simp only [List.singleton_append, List.mem_cons, List.not_mem_nil, or_false] at hX
              rcases hX with rfl | rfl
              · exact hms
              · exact hms
            · exact hQ AQ qQ hAQ hmQ.out hbQ.out hX
          · exact hQ AU qU hAU hmU.out hbU.out hX
        have hfst : (((([((M.2.getD noRule, (a4, n4, q4), (b4, m4, o4)), ps4)] ++ [((M.2.getD noRule, (a5, n5, q5), (b5, m5, o5)), ps5)]) ++ AQ) ++ AU).map (·.1)) = ([(M.2.getD noRule, (a4, n4, q4), (b4, m4, o4)), (M.2.getD noRule, (a5, n5, q5), (b5, m5, o5))] ++ qQ) ++ qU := by
          rw [List.map_append, List.map_append, hAQ, hAU]
          rfl
        have lQ : nQ ≤ 1024 := by
          have h5 : (qQ.map (·.1)).length = qQ.length := List.length_map _
          rw [hmQ.out] at h5
          have := RS.out.1
          have := HNQ.out
          omega
        have lU : nU ≤ 1024 := by
          have h5 : (qU.map (·.1)).length = qU.length := List.length_map _
          rw [hmU.out] at h5
          have := RS.out.1
          have := HNU.out
          omega
        obtain ⟨AX, hAX⟩ : ∃ A, (([((M.2.getD noRule, (a4, n4, q4), (b4, m4, o4)), ps4)] ++ [((M.2.getD noRule, (a5, n5, q5), (b5, m5, o5)), ps5)]) ++ AQ) ++ AU = A := ⟨_, rfl⟩
        rw [hAX] at AX2 POS SML hfst
        have HFST := Lib.hid hfst
        have NQ9 := Lib.hid ((NQ.out.ext EE8.out).ext E89.out)
        have NU9 := Lib.hid (NU.out.ext EE9.out)
        clear ax1 ax2 axQ axU hAQ hAU hfst hAX
        have m0 := keep (ext_trans E45.out (ext_trans e58 E89.out)) M0.out
        have m1 := keep (ext_trans E45.out (ext_trans e58 E89.out)) M1.out
        have m2 := keep (ext_trans E45.out (ext_trans e58 E89.out)) M2.out
        have o0 := keep (ext_trans e58 E89.out) NN0.out
        have o1 := keep (ext_trans e58 E89.out) NN1.out
        have o2 := keep (ext_trans e58 E89.out) NN2.out
        have uq := keep E89.out UQ.out
        have uu := UU.out
        have sm := World.block_lt_of_cell? W9 ⟨pm, 0, none⟩ m0
        have so := World.block_lt_of_cell? W9 ⟨pn, 0, none⟩ o0
        have sq := World.block_lt_of_cell? W9 ⟨pq, 0, none⟩ uq
        have su := World.block_lt_of_cell? W9 ⟨pu, 0, none⟩ uu
        have sm' : pm < W9.heap.size := sm
        have so' : pn < W9.heap.size := so
        have sq' : pq < W9.heap.size := sq
        have su' : pu < W9.heap.size := su
        have ELIT : Hid (Ext W9 (W9.alloc (.cells #[.string (M.2.getD noRule).head.pred, .slice a4 n4 q4, .slice b4 m4 o4, .string (M.2.getD noRule).head.pred, .slice a5 n5 q5, .slice b5 m5 o5] 27)).drew) := ext_drew (ext_alloc (Below.refl _ _) _)
        have hlit : ((W9.alloc (.cells #[.string (M.2.getD noRule).head.pred, .slice a4 n4 q4, .slice b4 m4 o4, .string (M.2.getD noRule).head.pred, .slice a5 n5 q5, .slice b5 m5 o5] 27)).drew).ownsRow W9.heap.size 27 3 (.slice (some ⟨W9.heap.size, 0, none⟩) 2 2) 2 (flatQ [(M.2.getD noRule, (a4, n4, q4), (b4, m4, o4)), (M.2.getD noRule, (a5, n5, q5), (b5, m5, o5))]) := (World.ownsRow_lit W9 #[.string (M.2.getD noRule).head.pred, .slice a4 n4 q4, .slice b4 m4 o4, .string (M.2.getD noRule).head.pred, .slice a5 n5 q5, .slice b5 m5 o5] 2 (Nat.le_refl _) (by unfold maxLen; omega) rfl).drew
        have HLIT := Lib.hid hlit
        have rowQ : W9.ownsRow wr.heap.size 27 3 (.slice aQ nQ cQ) nQ (flatQ qQ) := by have := NQ9.out.row; rwa [← HNQ.out] at this
        have rowU : W9.ownsRow W8.heap.size 27 3 (.slice aU nU cU) nU (flatQ qU) := by have := NU9.out.row; rwa [← HNU.out] at this
        have RQ := Lib.hid rowQ
        have RU := Lib.hid rowU
        have CQ := Lib.hid (cap_of_own rowQ).2
        have CU := Lib.hid (cap_of_own rowU).2
        clear rowQ rowU
        clear sm so sq su hlit e58 eR8
        go_region_held3 (fun w' => ∀ b o, b < W9.heap.size → w'.cell? ⟨b, o, none⟩ = W9.cell? ⟨b, o, none⟩)
          ((intro bb oo hbb; first | rfl | exact g11.cell (p := ⟨bb, oo, none⟩) hbb | exact g10.cell (p := ⟨bb, oo, none⟩) hbb | exact ELIT.out.cell (p := ⟨bb, oo, none⟩) hbb))
          (first
            | ((refine step_push_rules _ W9.heap.size _ 2 _ aQ nQ cQ qQ HLIT.out CQ.out HNQ.out.symm (fun ad e j u hu => keepA ELIT.out (own_src RQ.out ad e j u hu)) (by omega) ELIT.out.size (by rfl) _ _ (by rfl) (by rfl) (by rfl) ?_); intro v10 w10 own10 q10; have g10 : Ext W9 w10 := ext_ownB ELIT.out q10 (fun g e => by cases e; exact Nat.le_refl _))
            | ((refine step_push_rules w10 W9.heap.size v10 (2 + nQ) _ aU nU cU qU own10 CU.out HNU.out.symm (fun ad e j u hu => keepA g10 (own_src RU.out ad e j u hu)) (by omega) g10.size (by rfl) _ _ (by rfl) (by rfl) (by rfl) ?_); intro v11 w11 own11 q11; have g11 : Ext W9 w11 := ext_ownB g10 q11 (fun g e => (own10.lt g e).1))
            | fail)
        obtain ⟨aA, cA, rfl, _⟩ := own_form own11
        rw [← HFST.out] at own11
        obtain ⟨NA, hNA⟩ : ∃ N, 2 + nQ + nU = N := ⟨_, rfl⟩
        have hNB : NA ≤ 2050 := by omega
        rw [hNA] at own11 ⊢
        have hAL : AX.length = NA := by have := own11.1; rw [flatQ_len, List.length_map] at this; omega
        have HAL := Lib.hid hAL
        have ROWA := Lib.hid own11
        have AX11 := Lib.hid (AX2.out.ext g11)
        have E9A := Lib.hid g11
        have SZ : Hid (∀ X ∈ AX, X.2.length ≤ 64) := fun X hX => by
          obtain ⟨_, h2, h3⟩ := (AX2.out.rules X hX).n (SML.out X hX)
          omega
        clear own10 own11 g10 g11 q10 q11 uq uu m0 m1 m2 o0 o1 o2 sm' so' sq' su' hNA hAL HLIT
        have LQ := Lib.hid lQ
        have LU := Lib.hid lU
        clear lQ lU
        obtain ⟨t0, tt, tt0, tt1, tt2⟩ := info_parts info_tl
        obtain ⟨l0, ll, ll0, ll1, ll2⟩ := info_parts info_sl
        obtain ⟨wR, rfl⟩ : ∃ x : World, x = wr := ⟨_, rfl⟩
        go_wp2
        go_loopw [28, 29] (fun v28 v29 wj => ∃ i : Nat, i ≤ NA ∧ v29 = .int .i64 (i : Int) ∧ RowOf w11 22 ((AX.take i).flatMap termRows) v28 wj) (fun _ v _ => NA - (intOf v).toNat)
        case atStart => exact ⟨0, by omega, rfl, RowOf.nil _ _⟩
        case round =>
          obtain ⟨i, hi, rfl, hR⟩ := hrel
          have hlenT : ((AX.take i).flatMap termRows).length ≤ 133250 := by
            have h1 := lists_len (AX := AX.take i) fun X hX => SZ.out X (List.mem_of_mem_take hX)
            rw [List.length_take] at h1
            have := HAL.out
            omega
          obtain ⟨L0, hL0⟩ : ∃ L, (AX.take i).flatMap termRows = L := ⟨_, rfl⟩
          rw [hL0] at hR hlenT
          have HL0 := Lib.hid hL0
          obtain ⟨aL, cL, rfl⟩ := hR.form
          have HRO := Lib.hid hR
          have HLT := Lib.hid hlenT
          clear hL0
          by_cases hlt : i < NA
          · obtain ⟨X, hX⟩ : ∃ X, AX[i]? = some X := ⟨_, List.getElem?_eq_getElem (by rw [HAL.out]; exact hlt)⟩
            obtain ⟨⟨rx, ⟨hx1, hx2, hx3⟩, ⟨bx1, bx2, bx3⟩⟩, psX⟩ := X
            have HX := Lib.hid hX
            have hXm := List.mem_of_getElem? hX
            obtain ⟨gA, rfl, c0, c1_, c2_⟩ := row_cells (up_ext ROWA.out hR.old) (i := i) (q := (rx, (hx1, hx2, hx3), (bx1, bx2, bx3))) (by rw [List.getElem?_map, hX]; rfl)
            dsimp only at c0 c1_ c2_
            have hki : (i : Int) < (NA : Int) := by omega
            have Q1 : Hid (L0.length + 1 ≤ maxLen) := by show _ ≤ _; unfold maxLen; omega
            have Q2 : Hid ((L0.length + 1) * 24 ≤ 140737488355328) := by show _ ≤ _; omega
            have BS : Hid (w11.heap.size ≤ wr.heap.size) := hR.old.size
            have HXM := Lib.hid hXm
            have hps : psX.length ≤ 64 := SZ.out _ hXm
            have hbn : psX.length = bx2 := ((AX11.out.rules _ hXm).n (SML.out _ hXm)).2.2
            have hlt0 := HLT.out
            clear hR hX hXm
            go_upto_region 23 with (at_builtin; go_loud (refine wpList_append_one _ rfl _ _ 69 rfl w11.heap.size 22 t0 (.slice none 0 0) 1 24 Try.underlying69 tt tt0 tt1 tt2 rfl (by decide) aL L0.length cL (L0.map (·.v)) rfl (HRO.out.row.alloc _) ⟨wr.heap.size, 0, none⟩ 1 [.slice hx1 hx2 hx3] rfl rfl (news1 _ _ _) (fun u hu => by cases List.mem_singleton.1 hu; rfl) Q1.out Q2.out (size_alloc_le BS.out) ?_); intro g7 p7 w7 r1 r2 r3 r4)
            have hpu := RowOf.push (l := headRow ((rx, (hx1, hx2, hx3), (bx1, bx2, bx3)), psX)) HRO.out r1 r2
            have HPU1 := Lib.hid hpu
            clear hpu r1 r2 r3 r4 c0 c1_ c2_
            go_wp2
            go_loopw [28, 30] (fun v28 v30 wj => ∃ k : Nat, k ≤ bx2 ∧ v30 = .int .i64 (k : Int) ∧ RowOf w11 22 ((L0 ++ [headRow ((rx, (hx1, hx2, hx3), (bx1, bx2, bx3)), psX)]) ++ (psX.take k).map litRow) v28 wj) (fun _ v _ => bx2 - (intOf v).toNat)
            case atStart => exact ⟨0, by omega, rfl, by rw [List.take_zero, List.map_nil, List.append_nil]; exact HPU1.out⟩
            case round =>
              obtain ⟨k, hk, rfl, hS⟩ := hrel
              obtain ⟨LL, hLL⟩ : ∃ L, (L0 ++ [headRow ((rx, (hx1, hx2, hx3), (bx1, bx2, bx3)), psX)]) ++ (psX.take k).map litRow = L := ⟨_, rfl⟩
              have hLl : LL.length ≤ 133400 := by
                rw [← hLL, List.length_append, List.length_append, List.length_map, List.length_take, List.length_singleton]
                have := HLT.out
                omega
              rw [hLL] at hS
              have HLL := Lib.hid hLL
              obtain ⟨aS, cS, rfl⟩ := hS.form
              have HSO := Lib.hid hS
              obtain ⟨_, e_, c0, c1_, c2_⟩ := row_cells (up_ext ROWA.out hS.old) (i := i) (q := (rx, (hx1, hx2, hx3), (bx1, bx2, bx3))) (by rw [List.getElem?_map, HX.out]; rfl)
              cases e_
              dsimp only at c0 c1_ c2_
              clear hLL
              by_cases hkn : k < bx2
              · obtain ⟨p, hp⟩ : ∃ p, psX[k]? = some p := ⟨_, List.getElem?_eq_getElem (by omega)⟩
                have hbd : wr.ownsRow w3.heap.size 43 8 (.slice bx1 bx2 bx3) bx2 (flatP psX) := ((AX11.out.rules _ HXM.out).ext hS.old).body
                obtain ⟨gb9, pb9, e9, _⟩ := own_formS hbd (by omega)
                cases e9
                have c9 : wr.cell? ⟨gb9, k * 8 + 2, none⟩ = some (.slice p.2.1 p.2.2.1 p.2.2.2) := by
                  have := hbd.cells (g := gb9) rfl (k * 8 + 2) _ (by rw [flatP_get psX k 2 p hp (by omega)]; rfl)
                  rw [Addr.add_lit, Nat.zero_add] at this
                  exact this
                have hkk : (k : Int) < (bx2 : Int) := by omega
                have Q1 : Hid (LL.length + 1 ≤ maxLen) := by show _ ≤ _; unfold maxLen; omega
                have Q2 : Hid ((LL.length + 1) * 24 ≤ 140737488355328) := by show _ ≤ _; omega
                have BS2 : Hid (w11.heap.size ≤ wr.heap.size) := hS.old.size
                have HPP := Lib.hid hp
                clear hS hp hbd
                go_wp2_with (at_builtin; go_loud (refine wpList_append_one _ rfl _ _ 69 rfl w11.heap.size 22 t0 (.slice none 0 0) 1 24 Try.underlying69 tt tt0 tt1 tt2 rfl (by decide) aS LL.length cS (LL.map (·.v)) rfl (HSO.out.row.alloc _) ⟨wr.heap.size, 0, none⟩ 1 [.slice p.2.1 p.2.2.1 p.2.2.2] rfl rfl (news1 _ _ _) (fun u hu => by cases List.mem_singleton.1 hu; rfl) Q1.out Q2.out (size_alloc_le BS2.out) ?_); intro g8 p8 w8' r1 r2 r3 r4)
                have hpu := RowOf.push (l := litRow p) HSO.out r1 r2
                have HPU2 := Lib.hid hpu
                clear hpu r1 r2 r3 r4
                go_roundw
                case rel => exact ⟨k + 1, by omega, by go_num, by rw [take_at HPP.out, List.map_append, ← List.append_assoc, HLL.out]; exact HPU2.out⟩
                case measure => simp [intOf]; omega
              · obtain rfl : k = bx2 := by omega
                have hge : ¬ (k : Int) < (k : Int) := by omega
                have hfin : (AX.take (i + 1)).flatMap termRows = LL := by
                  rw [take_at HX.out, List.flatMap_append, List.flatMap_singleton, ← HLL.out, HL0.out, List.take_of_length_le (l := psX) (i := k) (by omega), List.append_assoc]
                  rfl
                have HFIN := Lib.hid hfin
                clear hS hfin
                go_wp2
                go_roundw
                case rel => exact ⟨i + 1, by omega, by go_num, by rw [HFIN.out]; exact HSO.out⟩
                case measure => simp [intOf]; omega
          · obtain rfl : i = NA := by omega
            have hge : ¬ (i : Int) < (i : Int) := by omega
            have hall : AX.take i = AX := List.take_of_length_le (by rw [HAL.out]; exact Nat.le_refl _)
            have hL0 : L0 = AX.flatMap termRows := by rw [← HL0.out, hall]
            have HLA := Lib.hid hL0
            have E5Z := Lib.hid (ext_trans HOLD.out (ext_trans E8.out (ext_trans E89.out (ext_trans E9A.out hR.old))))
            have E1Z := Lib.hid (ext_trans E12.out (ext_trans E23.out (ext_trans E35.out E5Z.out)))
            have EZ9 := Lib.hid (ext_trans E9A.out hR.old)
            have ra := up_ext RA.out E1Z.out
            have RAZ := Lib.hid ra
            have hla : ∀ b, (Value.slice t1 n1 k1).ownBlock = some b → wc.heap.size ≤ b ∧ b < w1.heap.size := fun b e => RA.out.lt b e
            have HLAB := Lib.hid hla
            have hlt0 := HLT.out
            clear hall hL0 hR hla ra
            go_wp2
            obtain ⟨wo, rfl⟩ : ∃ x : World, x = wr := ⟨_, rfl⟩
            go_loopw [31] (fun v wj => ∃ j : Nat, j ≤ n1 ∧ v = .int .i64 (j : Int) ∧ ButS (fun b => (Value.slice t1 n1 k1).ownBlock = some b) wo wj ∧ ∃ xs, wj.ownsRow wc.heap.size 3 1 (.slice t1 n1 k1) n1 xs) (fun v _ => n1 - (intOf v).toNat)
            case atStart => exact ⟨0, by omega, rfl, ButS.refl _ _, _, RAZ.out⟩
            case round =>
              obtain ⟨j, hj, rfl, hB, xs, hx⟩ := hrel
              have HB1 := Lib.hid hB
              have HX1 := Lib.hid hx
              by_cases hjn : j < n1
              · obtain ⟨ga, pa', ea, _⟩ := own_formS hx (by omega)
                cases ea
                have AR : AnyRow wr wc.heap.size 3 1 ga n1 k1 := ⟨xs, hx⟩
                obtain ⟨u0, t0_⟩ := AR.cell (j := j) (by omega)
                have f0 := AR.free j
                have hst := (hx.stored j (.int .i64 (-7))).1
                have hbt := hB.set (b := ga) (.inl rfl) j (.int .i64 (-7))
                have HST1 := Lib.hid hst
                have HBT := Lib.hid hbt
                have hkk : (j : Int) < (n1 : Int) := by omega
                clear hB hx AR hst hbt
                go_wp2
                go_roundw
                case rel => exact ⟨j + 1, by omega, by go_num, HBT.out, _, HST1.out⟩
                case measure => simp [intOf]; omega
              · obtain rfl : j = n1 := by omega
                have hge : ¬ (j : Int) < (j : Int) := by omega
                clear hB hx
                go_wp2
                obtain ⟨wp, rfl⟩ : ∃ x : World, x = wr := ⟨_, rfl⟩
                go_loopw [9, 32] (fun v9 v32 wj => ∃ k : Nat, k ≤ 20 ∧ v32 = .int .i64 (k : Int) ∧ GrowSt wp wc.heap.size 3 1 ⟨.slice t1 j k1, j, xs⟩ k (ksOf elI k) v9 wj) (fun _ v _ => 20 - (intOf v).toNat)
                case atStart => exact ⟨0, by omega, rfl, GrowSt.start HX1.out⟩
                case round =>
                  obtain ⟨k', hk', rfl, hS⟩ := hrel
                  obtain ⟨a9, c9, rfl, _⟩ := own_form hS.row
                  have HSG := Lib.hid hS
                  have HBW : Hid (wc.heap.size ≤ wr.heap.size) := by
                    show _ ≤ _
                    have z1 := hS.but.size
                    have z2 := HB1.out.size
                    have z3 := E5Z.out.size
                    have z4 := E5.out.size
                    omega
                  clear hS
                  by_cases hk20 : k' < 20
                  · have hkk : (k' : Int) < 20 := by omega
                    have Q1 : Hid (j + k' + 1 ≤ maxLen) := by show _ ≤ _; unfold maxLen; omega
                    have Q2 : Hid ((j + k' + 1) * 8 ≤ 140737488355328) := by show _ ≤ _; omega
                    go_wp2_with (at_builtin; go_loud (refine wpList_append_one _ rfl _ _ 29 rfl wc.heap.size 3 i0 (.int .i64 0) 1 8 Try.underlying29 ii ii0 ii1 ii2 rfl (by decide) a9 (j + k') c9 (xs ++ ksOf elI k') rfl (HSG.out.row.alloc _) ⟨wr.heap.size, 0, none⟩ 1 (elI k') rfl rfl (news1 _ _ _) (fun u hu => by cases List.mem_singleton.1 hu; rfl) Q1.out Q2.out (size_alloc_le HBW.out) ?_); intro g7 p7 w7 r1 r2 r3 r4)
                    have hst := GrowSt.step HSG.out r1 r2 r3 r4
                    rw [← ksOf_succ] at hst
                    have HSG2 := Lib.hid hst
                    clear hst r1 r2 r3 r4
                    go_roundw
                    case rel => exact ⟨k' + 1, by omega, by go_num, HSG2.out⟩
                    case measure => simp [intOf]; omega
                  · obtain rfl : k' = 20 := by omega
                    have ba : ButS (fun b => (Value.slice t1 j k1).ownBlock = some b) wo wr := HB1.out.grown HSG.out.but (fun b e => .inl e)
                    have BA := Lib.hid ba
                    have ZF := ba.own (up_ext ROWA.out HRO.out.old) (fun b e1 e2 => by
                      rcases own_apart (up_ext ROWA.out HRO.out.old) RAZ.out (by decide) with h | h
                      · rw [h] at e1; cases e1
                      · exact h (e1.trans e2.symm))
                    have ROWB := Lib.hid ZF
                    have hge : ¬ (20 : Int) < 20 := by omega
                    clear ba ZF
                    go_wp2
                    obtain ⟨wq, rfl⟩ : ∃ x : World, x = wr := ⟨_, rfl⟩
                    go_loopw [33, 34] (fun v33 v34 wj => ∃ t : Nat, t ≤ i ∧ v34 = .int .i64 (t : Int) ∧ RowOf wq 25 ((AX.take t).map bodyRow) v33 wj) (fun _ v _ => i - (intOf v).toNat)
                    case atStart => exact ⟨0, by omega, rfl, RowOf.nil _ _⟩
                    case round =>
                      obtain ⟨t, hti, rfl, hT⟩ := hrel
                      obtain ⟨L3, hL3⟩ : ∃ L, (AX.take t).map bodyRow = L := ⟨_, rfl⟩
                      have hl3 : L3.length ≤ 2050 := by rw [← hL3, List.length_map, List.length_take]; omega
                      rw [hL3] at hT
                      have HL3 := Lib.hid hL3
                      obtain ⟨a33, c33, rfl⟩ := hT.form
                      have HTR := Lib.hid hT
                      clear hL3
                      by_cases htn : t < i
                      · obtain ⟨X, hX⟩ : ∃ X, AX[t]? = some X := ⟨_, List.getElem?_eq_getElem (by rw [HAL.out]; exact htn)⟩
                        obtain ⟨⟨rx, ⟨hx1, hx2, hx3⟩, ⟨bx1, bx2, bx3⟩⟩, psX⟩ := X
                        have HXT := Lib.hid hX
                        obtain ⟨gA, rfl, c0, c1_, c2_⟩ := row_cells (up_ext ROWB.out hT.old) (i := t) (q := (rx, (hx1, hx2, hx3), (bx1, bx2, bx3))) (by rw [List.getElem?_map, hX]; rfl)
                        dsimp only at c0 c1_ c2_
                        have hkk : (t : Int) < (i : Int) := by omega
                        have Q1 : Hid (L3.length + 1 ≤ maxLen) := by show _ ≤ _; unfold maxLen; omega
                        have Q2 : Hid ((L3.length + 1) * 24 ≤ 140737488355328) := by show _ ≤ _; omega
                        have BS3 : Hid (wq.heap.size ≤ wr.heap.size) := hT.old.size
                        clear hT hX
                        go_wp2_with (at_builtin; go_loud (refine wpList_append_one _ rfl _ _ 70 rfl wq.heap.size 25 l0 (.slice none 0 0) 1 24 Try.underlying70 ll ll0 ll1 ll2 rfl (by decide) a33 L3.length c33 (L3.map (·.v)) rfl (HTR.out.row.alloc _) ⟨wr.heap.size, 0, none⟩ 1 [.slice bx1 bx2 bx3] rfl rfl (news1 _ _ _) (fun u hu => by cases List.mem_singleton.1 hu; rfl) Q1.out Q2.out (size_alloc_le BS3.out) ?_); intro g8 p8 w8' r1 r2 r3 r4)
                        have hpu := RowOf.push (l := bodyRow ((rx, (hx1, hx2, hx3), (bx1, bx2, bx3)), psX)) HTR.out r1 r2
                        have HPU3 := Lib.hid hpu
                        clear hpu r1 r2 r3 r4
                        go_roundw
                        case rel => exact ⟨t + 1, by omega, by go_num, by rw [take_at HXT.out, List.map_append, HL3.out]; exact HPU3.out⟩
                        case measure => simp [intOf]; omega
                      · obtain rfl : t = i := by omega
                        have hge : ¬ (t : Int) < (t : Int) := by omega
                        have hL3 : L3 = AX.map bodyRow := by rw [← HL3.out, List.take_of_length_le (by rw [HAL.out]; exact Nat.le_refl _)]
                        have HL3A := Lib.hid hL3
                        have EQZ := Lib.hid hT.old
                        clear hT hL3
                        go_upto_region 40 with (fail)
                        obtain ⟨wz, rfl⟩ : ∃ x : World, x = wr := ⟨_, rfl⟩
                        -- what lies where, now
                        have mv : ∀ {b n size : Nat} {e : TypeId} {v : Value} {ys : List Value}, wo.ownsRow b e size v n ys → e ≠ 3 → wz.ownsRow b e size v n ys := fun {b n size e v ys} h he => up_ext (BA.out.own h (fun b' e1 e2 => by
                          rcases own_apart h RAZ.out he with h9 | h9
                          · rw [h9] at e1; cases e1
                          · exact h9 (e1.trans e2.symm))) EQZ.out
                        have E11O : Ext w11 wo := HRO.out.old
                        have E9O : Ext W9 wo := EZ9.out
                        have bodiesZ : ∀ l ∈ L3, wz.ownsRow w3.heap.size 43 8 l.v l.n l.xs := fun l hl => by
                          rw [HL3A.out] at hl
                          obtain ⟨X, hX, rfl⟩ := List.mem_map.1 hl
                          exact mv (up_ext (AX11.out.rules X hX).body E11O) (by decide)
                        have termsZ : ∀ l ∈ L0, wz.ownsRow w3.heap.size 37 2 l.v l.n l.xs := fun l hl => by
                          rw [HLA.out] at hl
                          obtain ⟨X, hX, hlX⟩ := List.mem_flatMap.1 hl
                          exact mv (up_ext ((AX11.out.rules X hX).terms l hlX) E11O) (by decide)
                        have smB : ∀ l ∈ L3, l.n ≤ 1353245080303 := fun l hl => by
                          rw [HL3A.out] at hl
                          obtain ⟨X, hX, rfl⟩ := List.mem_map.1 hl
                          have := ((AX11.out.rules X hX).n (SML.out X hX)).2.1
                          omega
                        have smT : ∀ l ∈ L0, l.n ≤ 5864062014634 := fun l hl => by
                          rw [HLA.out] at hl
                          obtain ⟨X, hX, hlX⟩ := List.mem_flatMap.1 hl
                          exact ((AX11.out.rules X hX).n (SML.out X hX)).1 l hlX
                        have apB : L3.Pairwise fun a b => a.v.ownBlock = none ∨ a.v.ownBlock ≠ b.v.ownBlock := by
                          rw [HL3A.out]
                          exact AX11.out.bodies
                        have apT : L0.Pairwise fun a b => a.v.ownBlock = none ∨ a.v.ownBlock ≠ b.v.ownBlock := by
                          rw [HLA.out]
                          exact AX11.out.lists
                        have z3Z : w3.heap.size ≤ wz.heap.size := by
                          have z1 := E35.out.size
                          have z2 := E5Z.out.size
                          have z3 := BA.out.size
                          have z4 := EQZ.out.size
                          omega
                        have rowBZ : wz.ownsRow w3.heap.size 25 1 (.slice a33 L3.length c33) L3.length (L3.map (·.v)) := own_base HTR.out.row (by
                          have z1 := E35.out.size
                          have z2 := E5Z.out.size
                          have z3 := BA.out.size
                          omega)
                        have rowTZ : wz.ownsRow w3.heap.size 22 1 (.slice aL L0.length cL) L0.length (L0.map (·.v)) := own_base (mv HRO.out.row (by decide)) (by
                          have z1 := E35.out.size
                          have z2 := HOLD.out.size
                          have z3 := E8.out.size
                          have z4 := E89.out.size
                          have z5 := E9A.out.size
                          omega)
                        have rqZ := mv (up_ext RQ.out E9O) (by decide)
                        have ruZ := own_base (mv (up_ext RU.out E9O) (by decide)) E8.out.size
                        have hqu : (Value.slice aQ nQ cQ).ownBlock = none ∨ (Value.slice aQ nQ cQ).ownBlock ≠ (Value.slice aU nU cU).ownBlock := by
                          cases hx : (Value.slice aQ nQ cQ).ownBlock with
                          | none => exact .inl rfl
                          | some b =>
                            refine .inr fun e => ?_
                            have hq8 : w8.ownsRow wR.heap.size 27 3 (.slice aQ nQ cQ) nQ (flatQ qQ) := by have := NQ.out.row; rwa [← HNQ.out] at this
                            have z1 := (hq8.lt b hx).2
                            have z2 := (RU.out.lt b e.symm).1
                            have z3 := EE8.out.size
                            omega
                        have RQZ := Lib.hid rqZ
                        have RUZ := Lib.hid ruZ
                        have GB : Hid (∀ z, Ext wz z → Calls Try.prog 32 #[.slice a33 L3.length c33] z fun e w' => e = .returned (.bool true) ∧ ButS (Blocks L3) z w') := fun z hz => c_grown L3 a33 L3.length c33 w3.heap.size z (up_ext rowBZ hz) (fun l hl => up_ext (bodiesZ l hl) hz) smB apB (by omega) (Nat.le_trans z3Z hz.size)
                        have G2 : Hid (∀ z, ButS (Blocks L3) wz z → Calls Try.prog 33 #[.agg #[.slice aQ nQ cQ], .agg #[.slice aU nU cU]] z fun e w' => e = .returned (.bool true) ∧ ButS (fun b => (Value.slice aQ nQ cQ).ownBlock = some b ∨ (Value.slice aU nU cU).ownBlock = some b) z w') := fun z hz => by
                          have away : ∀ {v : Value} {n : Nat} {ys : List Value}, wz.ownsRow wR.heap.size 27 3 v n ys → z.ownsRow wR.heap.size 27 3 v n ys := fun h => hz.own h (fun b e1 ⟨l, hl, e2⟩ => by
                            rcases own_apart h (bodiesZ l hl) (by decide) with h9 | h9
                            · rw [h9] at e1; cases e1
                            · exact h9 (e1.trans e2.symm))
                          refine c_grown2 (flatQ qQ) (flatQ qU) aQ nQ cQ aU nU cU wR.heap.size z (away rqZ) (away ruZ) hqu ?_ ?_ ?_
                          · have := LQ.out
                            omega
                          · have := LU.out
                            omega
                          · have z1 := hz.size
                            have z2 := EQZ.out.size
                            have z3 := BA.out.size
                            have z4 := E8.out.size
                            have z5 := E89.out.size
                            have z6 := E9O.size
                            omega
                        have AP : Hid (∀ z, ButS (fun b => Blocks L3 b ∨ (Value.slice aQ nQ cQ).ownBlock = some b ∨ (Value.slice aU nU cU).ownBlock = some b) wz z → Calls Try.prog 34 #[.slice aL L0.length cL] z fun e w' => e = .returned (.bool true) ∧ ButS (Blocks L0) z w') := fun z hz => by
                          have away : ∀ {b n size : Nat} {e : TypeId} {v : Value} {ys : List Value}, wz.ownsRow b e size v n ys → e ≠ 43 → e ≠ 27 → z.ownsRow b e size v n ys := fun h n1_ n2_ => hz.own h (fun b e1 hb => by
                            have hno : ∀ {b' n' s' : Nat} {e' : TypeId} {v' : Value} {y' : List Value}, wz.ownsRow b' e' s' v' n' y' → v'.ownBlock = some b → _ ≠ e' → False := fun h' e2 hne => by
                              rcases own_apart h h' hne with h9 | h9
                              · rw [h9] at e1; cases e1
                              · exact h9 (e1.trans e2.symm)
                            rcases hb with ⟨l, hl, e2⟩ | e2 | e2
                            · exact hno (bodiesZ l hl) e2 n1_
                            · exact hno RQZ.out e2 n2_
                            · exact hno RUZ.out e2 n2_)
                          exact c_apart L0 aL L0.length cL w3.heap.size z (away rowTZ (by decide) (by decide)) (fun l hl => away (termsZ l hl) (by decide) (by decide)) smT apT (by omega) (Nat.le_trans z3Z hz.size)
                        have mvc : ∀ {b o : Nat} {v : Value}, wo.cell? ⟨b, o, none⟩ = some v → (∀ b', (Value.slice t1 j k1).ownBlock = some b' → b' ≠ b) → wz.cell? ⟨b, o, none⟩ = some v := fun h hn => keep EQZ.out (BA.out.cell (fun e => hn _ e rfl) h)
                        have EW8O : Ext W8 wo := ext_trans E89.out E9O
                        have uq : wz.cell? ⟨pq, 0, none⟩ = some (.slice aQ nQ cQ) := mvc (keep EW8O UQ.out) (fun b' e => by
                          have z1 := (HLAB.out b' e).2
                          have z2 := (ext_trans E12.out (ext_trans E23.out E35.out)).size
                          have z3 := HOLD.out.size
                          have z4 := L8.out
                          have z5 := HPQ.out
                          omega)
                        have uu : wz.cell? ⟨pu, 0, none⟩ = some (.slice aU nU cU) := mvc (keep E9O UU.out) (fun b' e => by
                          have z1 := (HLAB.out b' e).2
                          have z2 := (ext_trans E12.out (ext_trans E23.out E35.out)).size
                          have z3 := HOLD.out.size
                          have z4 := E8.out.size
                          have z5 := L9.out
                          have z6 := HPU.out
                          omega)
                        have IB : Hid (IntsAt wz t2 n2 (laidInts r s)) := by
                          refine ⟨I2H.out.1, I2H.out.2.1, fun i_ x hx => ?_⟩
                          obtain ⟨b, off, e, hc⟩ := I2H.out.2.2 i_ x hx
                          refine ⟨b, off, e, mvc (keep (ext_trans E23.out (ext_trans E35.out E5Z.out)) hc) (fun b' e2 => ?_)⟩
                          subst e
                          have h1 := (HLAB.out b' e2).2
                          rcases RB.out.2 with ⟨h9, _⟩ | ⟨g9, c9_, cur9, h9, h8, _⟩
                          · cases h9
                          · cases h9
                            omega
                        have IW : Hid (IntsAt wz t3 n2 (laidInts r s)) := by
                          refine row_ints (up_ext (BA.out.own (up_ext RW3.out (ext_trans E35.out E5Z.out)) (fun b e1 e2 => ?_)) EQZ.out) (by unfold maxLen; omega)
                          have h1 := (HLAB.out b e2).2
                          have h2 := (RW3.out.lt b e1).1
                          have h3 := LB2.out
                          omega
                        have BOX : Hid (∀ b, Blocks L3 b → b ≠ pq ∧ b ≠ pu) := fun b ⟨l, hl, e⟩ => by
                          rw [HL3A.out] at hl
                          obtain ⟨X, hX, rfl⟩ := List.mem_map.1 hl
                          exact (POS.out X hX _ List.mem_cons_self b e).2
                        clear mv mvc bodiesZ termsZ smB smT apB apT z3Z rowBZ rowTZ rqZ ruZ hqu E11O E9O EW8O
                        go_upto_if 195 with (first
                          | (go_at_call 19; (with_reducible refine (c_ints_same (laidInts r s) _ _ _ _ _ _ wz IB.out IW.out).mono ?_); rintro e z1 ⟨rfl, h1⟩)
                          | (go_at_call 32; (with_reducible refine (GB.out z1 h1).mono ?_); rintro e z2 ⟨rfl, g2⟩; have k2_ := ((ButS.refl (Blocks L3) wz).ext h1).trans g2; have uq2 := k2_.cell (fun hb => (BOX.out _ hb).1 rfl) uq; have uu2 := k2_.cell (fun hb => (BOX.out _ hb).2 rfl) uu)
                          | (go_at_call 33; (with_reducible refine (G2.out z2 k2_).mono ?_); rintro e z3 ⟨rfl, g3⟩; have k3_ : ButS (fun b => Blocks L3 b ∨ (Value.slice aQ nQ cQ).ownBlock = some b ∨ (Value.slice aU nU cU).ownBlock = some b) wz z3 := (k2_.mono (fun b _ h => .inl h)).trans (g3.mono (fun b _ h => .inr h)))
                          | (go_at_call 34; (with_reducible refine (AP.out z3 k3_).mono ?_); rintro e z4 ⟨rfl, g4⟩))
                        have BSF : Hid (ButS (fun b => (wc.heap.size ≤ b ∧ b < W5.heap.size) ∨ wR.heap.size ≤ b) W9 z4) := by
                          refine ButS.trans (ButS.trans (ButS.ext (ButS.trans ((ButS.refl _ W9).ext EZ9.out) (BA.out.mono fun b _ e => .inl ⟨(HLAB.out b e).1, ?_⟩)) EQZ.out) (k3_.mono fun b _ hb => ?_)) (g4.mono fun b _ hb => ?_)
                          · have z1 := (HLAB.out b e).2
                            have z2 := (ext_trans E12.out (ext_trans E23.out E35.out)).size
                            omega
                          · rcases hb with ⟨l, hl, e⟩ | e | e
                            · rw [HL3A.out] at hl
                              obtain ⟨X, hX, rfl⟩ := List.mem_map.1 hl
                              exact (POS.out X hX _ List.mem_cons_self b e).1
                            · exact .inr (RQ.out.lt b e).1
                            · exact .inr (Nat.le_trans E8.out.size (RU.out.lt b e).1)
                          · obtain ⟨l, hl, e⟩ := hb
                            rw [HLA.out] at hl
                            obtain ⟨X, hX, hlX⟩ := List.mem_flatMap.1 hl
                            exact (POS.out X hX l (List.mem_cons_of_mem _ hlX) b e).1
                        have hcR : wc.heap.size ≤ wR.heap.size := Nat.le_trans E5.out.size HOLD.out.size
                        have hwc : w.heap.size ≤ wc.heap.size := HE.out.size
                        have EWC9 : Ext wc W9 := ext_trans E5.out (ext_trans HOLD.out (ext_trans E8.out E89.out))
                        have ECF := Lib.hid (ext_of_but EWC9 BSF.out (fun b hb h => by
                          rcases h with h | h
                          · omega
                          · omega) : Ext wc z4)
                        have EWF := Lib.hid (ext_of_but (ext_trans HE.out EWC9) BSF.out (fun b hb h => by
                          rcases h with h | h
                          · omega
                          · omega) : Ext w z4)
                        have SAME : Hid (∀ b, W5.heap.size ≤ b → b < wR.heap.size → z4.heap[b]? = wR.heap[b]?) := fun b b1 b2 =>
                          (BSF.out.block b (Nat.lt_of_lt_of_le b2 (ext_trans E8.out E89.out).size) (fun h => by rcases h with h | h <;> omega)).trans ((ext_trans E8.out E89.out).block b b2)
                        have ROWZ4 := Lib.hid (own_same HROW.out (Nat.le_refl _) (fun b b1 b2 => SAME.out b b1 b2) : z4.ownsRow W5.heap.size 27 3 (.slice a3 k c3) k (flatQ qs))
                        have HQL : Hid (qs.length = k) := by
                          show _ = _
                          have h5 : (qs.map (·.1)).length = qs.length := List.length_map _
                          rw [HMAP.out, HP.out.2.1] at h5
                          omega
                        clear h1 g2 k2_ uq2 uu2 g3 k3_ g4 uq uu hcR hwc EWC9 GB G2 AP
                        go_wp2
                        go_loopw [35] (fun v wj => ∃ x : Nat, x ≤ k ∧ v = .int .i64 (x : Int) ∧ Ext z4 wj) (fun v _ => k - (intOf v).toNat)
                        case atStart => exact ⟨0, by omega, rfl, Below.refl _ _⟩
                        case round =>
                          obtain ⟨x, hxk, rfl, hE⟩ := hrel
                          have HEX := Lib.hid hE
                          have p1 := keep (ext_trans ECF.out hE) P0.out
                          by_cases hlt : x < k
                          · obtain ⟨rr, hrr⟩ : ∃ y, rs[x]? = some y := ⟨_, List.getElem?_eq_getElem (by rw [HP.out.2.1]; omega)⟩
                            obtain ⟨g, off, q', rfl, rfl, c0, c1_, c2_, okq⟩ := ruleIn_at (HP.out.keep (ext_trans EWF.out hE)) hrr
                            have hq0 := hrr
                            rw [← HMAP.out, List.getElem?_map] at hq0
                            obtain ⟨q, hq, e1⟩ := Option.map_eq_some_iff.1 hq0
                            obtain ⟨g7, rfl, m0, m1, m2⟩ := row_cells (up_ext ROWZ4.out hE) hq
                            have hq5 := HIV.out.pos x (by rw [HQL.out]; exact hlt)
                            have OWJ : OwnQ wr (lo x) (hi_ x) q := ((HIV.out.own x q hq).same fun b b1 b2 => SAME.out b (by omega) (by omega)).same fun b b1 b2 => hE.block b (by have := BSF.out.size; have := (ext_trans E8.out E89.out).size; omega)
                            obtain ⟨q1, qa, qb⟩ := q
                            obtain rfl : q1 = q'.1 := e1
                            obtain ⟨gh3, ch3, gb3, cb3, e3, OJ, _⟩ := OWJ.now
                            dsimp only at e3
                            cases e3
                            dsimp only at m0 m1 m2
                            have OQ : Hid (RuleV wr q'.1 q'.2.1.1 q'.2.1.2.1 q'.2.1.2.2 q'.2.2.1 q'.2.2.2.1 q'.2.2.2.2) := okq
                            have HNH : q'.1.head.terms.length = q'.2.1.2.1 := OQ.out.terms.2.1
                            have HNB : q'.1.body.length = q'.2.2.2.1 := OQ.out.body.2.1
                            rw [HNH] at m1
                            rw [HNB] at m2
                            have OI : Hid (RuleV wr q'.1 (some ⟨gh3, 0, none⟩) q'.2.1.2.1 ch3 (some ⟨gb3, 0, none⟩) q'.2.2.2.1 cb3) := OJ.rule OQ.out
                            have HOJ := Lib.hid OJ
                            have hki : (x : Int) < (k : Int) := by omega
                            have hki0 : (0 : Int) ≤ (x : Int) := by omega
                            have sx := World.block_lt_of_cell? wr ⟨w.heap.size + 2, 0, none⟩ p1
                            have s1 := World.block_lt_of_cell? wr ⟨g, _, none⟩ c0
                            have s2 := World.block_lt_of_cell? wr ⟨g7, _, none⟩ m0
                            have sx' : w.heap.size + 2 < wr.heap.size := sx
                            have s1' : g < wr.heap.size := s1
                            have s2' : g7 < wr.heap.size := s2
                            have hd3 : Ext wr wr.drew := ext_drew (Below.refl _ _)
                            have hnn := HP.out.1
                            clear hrr hE hq0 hq OJ OWJ okq sx s1 s2 hlt HNH HNB hq5
                            go_upto_region 45 with (fail)
                            go_cut [212] (fun v212 wt => v212 = .bool false ∧ Ext wr wt)
                            case first =>
                              go_region_held3 (fun w' => ∀ b o, b < wr.heap.size → w'.cell? ⟨b, o, none⟩ = wr.cell? ⟨b, o, none⟩)
                                ((intro bb oo hbb; first | rfl | exact g6.cell (p := ⟨bb, oo, none⟩) hbb))
                                (first
                                  | (go_at_call 24; (with_reducible refine (c_stays q'.1 gh3 _ ch3 gb3 _ cb3 _ _ _ _ _ _ _ _ (HOJ.out.ext hd3) (OI.out.keep hd3) (OQ.out.keep hd3)).mono ?_); rintro e w6_ ⟨rfl, h6⟩; have g6 := ext_trans hd3 h6)
                                  | fail)
                              all_goals
                                go_wp2
                                go_meet
                                exact ⟨rfl, g6⟩
                            case rest =>
                              obtain ⟨rfl, e6⟩ := hcut
                              have TE := Lib.hid (ext_trans HEX.out e6)
                              clear e6
                              go_wp2
                              go_roundw
                              case rel => exact ⟨x + 1, by omega, by go_num, TE.out⟩
                              case measure => simp [intOf]; omega
                          · obtain rfl : x = k := by omega
                            have hge : ¬ (x : Int) < (x : Int) := by omega
                            have ECZ := ext_trans ECF.out hE
                            have EWZ := Lib.hid (ext_trans EWF.out hE)
                            have x0 := keep ECZ X0.out
                            have x1 := keep ECZ X1.out
                            have x2 := keep ECZ X2.out
                            have y0 := keep ECZ Y0.out
                            have y1 := keep ECZ Y1.out
                            have y2 := keep ECZ Y2.out
                            have a0 := keep ECZ A0.out
                            have a1 := keep ECZ A1.out
                            have a2 := keep ECZ A2.out
                            have b0 := keep ECZ B0.out
                            have b1 := keep ECZ B1.out
                            have b2 := keep ECZ B2.out
                            have ECH := Lib.hid ECZ
                            clear hE ECZ
                            go_wp2_with (first
                              | (go_at_call 24; (with_reducible refine (c_stays r gh nh c1 gb nb c2 _ _ _ _ _ _ _ wr (HOA.out.ext ECH.out) (HA.out.keep ECH.out) (HR.out.keep EWZ.out)).mono ?_); rintro e w6_ ⟨rfl, h6⟩; have y0 := keep h6 y0; have y1 := keep h6 y1; have y2 := keep h6 y2; have b0 := keep h6 b0; have b1 := keep h6 b1; have b2 := keep h6 b2)
                              | (go_at_call 24; (with_reducible refine (c_stays s gh' nh' c1' gb' nb' c2' _ _ _ _ _ _ _ w6_ (HOB.out.ext (ext_trans ECH.out h6)) (HB.out.keep (ext_trans ECH.out h6)) (HS.out.keep (ext_trans EWZ.out h6))).mono ?_); rintro e w7_ ⟨rfl, h7⟩))
                            go_returns
                            exact ⟨rfl, ext_trans EWZ.out (ext_trans h6 h7)⟩
end Go.Proofs.Ytcphjfggjjonpaa
