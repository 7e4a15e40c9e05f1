/- The walk of lint's look Twice. The walks of lint.within and lint.without. -/
import Derived.Test.YtlalgaioiapjmaaGreatDoorG20
import Derived.Test.YtlalgaioiapjmaaGreatDoorG27
namespace Go.Proofs.YtlalgaioiapjmaaGreatDoor
open Go.ChangeShapes Go.WideShapes Go.ChangeAt Go.RowKit
open K (Rule Term Atom TermsAt LitsAt RuleV Finding)
theorem lits_take {w : World} {a : Option Addr} {n : Nat} {ls : List K.Lit} (h : LitsAt w a n ls) {k : Nat} (hk : k ≤ n) : LitsAt w a k (ls.take k) := by
  refine ⟨Nat.le_trans hk h.1, by rw [List.length_take, h.2.1]; omega, fun i l hl => ?_⟩
  have hik : i < k := by
    have := (List.getElem?_eq_some_iff.1 hl).1
    rw [List.length_take] at this
    omega
  rw [List.getElem?_take, if_pos hik] at hl
  exact h.2.2 i l hl
theorem c_bo3 (x l : K.Lit) (a a' : Option Addr) (n n' c c' lb : Nat) (w : World) (h1 : TermsAt w a n x.atom.terms) (h2 : TermsAt w a' n' l.atom.terms) (B : Blk w lb 47 [.int .i64 l.kind, .string l.atom.pred, .slice a' n' c', .int .i64 l.op, .int .i64 l.left.kind, .string l.left.text, .int .i64 l.right.kind, .string l.right.text]) :
    Calls Tryz.prog 38 #[.agg #[.int .i64 x.kind, .string x.atom.pred, .slice a n c, .int .i64 x.op, .int .i64 x.left.kind, .string x.left.text, .int .i64 x.right.kind, .string x.right.text], .pointer (some ⟨lb, 0, none⟩)] w fun e w' => e = .returned (.bool (decide (x = l))) ∧ Ext w w' := by
  have EE : ∀ o : Obj, Ext w (w.alloc o) := fun o => ext_alloc (Below.refl _ _) _
  have CE : Hid (∀ W, Ext w W → Calls Tryz.prog 39 #[.agg #[.int .i64 x.kind, .string x.atom.pred, .slice a n c, .int .i64 x.op, .int .i64 x.left.kind, .string x.left.text, .int .i64 x.right.kind, .string x.right.text], .agg #[.int .i64 l.kind, .string l.atom.pred, .slice a' n' c', .int .i64 l.op, .int .i64 l.left.kind, .string l.left.text, .int .i64 l.right.kind, .string l.right.text]] W fun e w' => e = .returned (.bool (decide (x = l))) ∧ Ext W w') := fun W e => c_sameLitL x l a a' n n' c c' W (h1.keep e) (h2.keep e)
  have z0 := fun o => keep (EE o) (B.cell (i := 0) rfl)
  have z1 := fun o => keep (EE o) (B.cell (i := 1) rfl)
  have z2 := fun o => keep (EE o) (B.cell (i := 2) rfl)
  have z3 := fun o => keep (EE o) (B.cell (i := 3) rfl)
  have z4 := fun o => keep (EE o) (B.cell (i := 4) rfl)
  have z5 := fun o => keep (EE o) (B.cell (i := 5) rfl)
  have z6 := fun o => keep (EE o) (B.cell (i := 6) rfl)
  have z7 := fun o => keep (EE o) (B.cell (i := 7) rfl)
  clear h1 h2 B
  go_enter Tryz.func38, Tryz.ntmps38
  go_wp2_with (go_at_call 39; (with_reducible refine (CE.out _ (EE _)).mono ?_); rintro e w2 ⟨rfl, hE⟩)
  go_returns
  exact ⟨rfl, ext_after hE (EE _)⟩
def look3 (r : Rule) : List Tell := tellG (fun i l => if (r.body.take i).any (fun x => decide (x = l)) = true then [(i, ⟨#[]⟩)] else []) 0 r.body
set_option maxRecDepth 100000 in
set_option maxHeartbeats 4000000 in
theorem c_look3 {w0 W : World} {ob base lb nb : Nat} {kd : Int} {n : Nat} {F : List Finding} {C : Nat → Prop} (h : LookIn w0 ob base lb nb kd n F C W) (r : Rule) (ah : Option Addr) (nh ch : Nat) (ab : Option Addr) (bn cb : Nat) (hr : RuleV w0 r ah nh ch ab bn cb) (hfew : bn ≤ 64) :
    Calls Tryz.prog 36 #[.int .i64 (n : Nat), .agg #[.string r.head.pred, .slice ah nh ch, .slice ab bn cb], .func (.func 18) #[] #[.pointer (some ⟨ob, 0, none⟩), .pointer (some ⟨lb, 0, none⟩), .pointer (some ⟨nb, 0, none⟩)]] W (LookPost ob base C W F ((look3 r).map (mkF kd n))) := by
  have H := Lib.hid h
  have HR := Lib.hid hr
  have HL := Lib.hid hr.body.2.1
  obtain ⟨g, hg⟩ : ∃ g : Nat → K.Lit → List Tell, (fun i l => if (r.body.take i).any (fun x => decide (x = l)) = true then [(i, (⟨#[]⟩ : ByteArray))] else []) = g := ⟨_, rfl⟩
  have LK : Hid (look3 r = tellG g 0 r.body) := by
    show _ = _
    rw [← hg]
    rfl
  have GL : Hid (∀ k, (tellG g 0 (r.body.take k)).length ≤ 100000) := fun k => by
    have h1 := tellG_len g 1 (fun i l => by rw [← hg]; dsimp only; split <;> simp) 0 (r.body.take k)
    have h3 := HL.out
    have h4 := List.length_take_le' k r.body
    omega
  have hcap := hr.bcap.1
  clear h hr
  go_enter Tryz.func36, Tryz.ntmps36
  go_upto_region 1 with (fail)
  refine wp_gen (fun W1 hW => ?_)
  obtain ⟨E0, x0, x1, x2⟩ : Ext W W1 ∧ W1.cell? ⟨W.heap.size, 0, none⟩ = some (.string r.head.pred) ∧ W1.cell? ⟨W.heap.size, 1, none⟩ = some (.slice ah nh ch) ∧ W1.cell? ⟨W.heap.size, 2, none⟩ = some (.slice ab bn cb) := by rw [hW]; exact box_rule _ _ _ _
  have H1 := Lib.hid (H.out.up E0)
  have HE := Lib.hid E0
  have NC : ¬ C W.heap.size := H.out.notC (Nat.le_refl _)
  obtain ⟨rb, hrb⟩ : ∃ rb, W.heap.size = rb := ⟨_, rfl⟩
  rw [hrb] at x0 x1 x2 NC ⊢
  clear hW E0 hrb
  go_wp2
  go_loopw [11] (fun v wr => ∃ k : Nat, k ≤ bn ∧ v = .int .i64 (k : Int) ∧ FS ob base C W1 (F ++ (tellG g 0 (r.body.take k)).map (mkF kd n)) wr) (fun v _ => bn - (intOf v).toNat)
  case atStart => exact ⟨0, Nat.zero_le _, rfl, by simpa [tellG] using FS.start H1.out.fj⟩
  case round =>
    obtain ⟨k, hk, rfl, hs⟩ := hrel
    have HS := Lib.hid hs
    by_cases hlt : ¬ k < bn
    · have hki : ¬ (k : Int) < (bn : Int) := by omega
      clear hs
      go_wp2
      go_end0
      rw [LK.out]
      have := HS.out
      rw [List.take_of_length_le (by have := HL.out; omega)] at this
      exact LookPost.mk HE.out this
    · have hlt : k < bn := by omega
      have hki : (k : Int) < (bn : Int) := by omega
      have hkc : (k : Int) ≤ (cb : Int) := by omega
      have E0r := H1.out.keepExt hs
      have y2 := hs.cell NC x2
      obtain ⟨l, b, off, ta, tn, tc, hlk, rfl, z0, z1, z2, z3, z4, z5, z6, z7, ht, _⟩ := lit_cells (HR.out.body.keep E0r) hlt
      have TK : Hid (tellG g 0 (r.body.take (k + 1)) = tellG g 0 (r.body.take k) ++ g k l) := tellG_take g hlk
      obtain ⟨q, hq⟩ : ∃ q, (r.body.take k).any (fun x => decide (x = l)) = q := ⟨_, rfl⟩
      have GK : Hid (g k l = if q = true then [(k, ⟨#[]⟩)] else []) := by
        show _ = _
        rw [← hg, ← hq]
      have EE : ∀ o : Obj, Ext wr (wr.alloc o) := fun o => ext_alloc (Below.refl _ _) _
      have LT := lits_take (HR.out.body.keep E0r) hk
      have HLT := Lib.hid hlt
      go_upto_region 4 with (fail)
      refine wp_gen (fun W4 hW4 => ?_)
      have E4 : Ext wr W4 := by rw [hW4]; exact EE _
      have B4 : Blk W4 wr.heap.size 47 [.int .i64 l.kind, .string l.atom.pred, .slice ta tn tc, .int .i64 l.op, .int .i64 l.left.kind, .string l.left.text, .int .i64 l.right.kind, .string l.right.text] := by
        rw [hW4]
        exact Blk.new wr [.int .i64 l.kind, .string l.atom.pred, .slice ta tn tc, .int .i64 l.op, .int .i64 l.left.kind, .string l.left.text, .int .i64 l.right.kind, .string l.right.text] 47
      have CO : Hid (Calls Tryz.prog 37 #[.slice (some ⟨b, off, none⟩) k cb, .func (.func 38) #[] #[.pointer (some ⟨wr.heap.size, 0, none⟩)]] W4 fun e w' => e = .returned (.bool q) ∧ Ext W4 w') := by
        show Calls _ _ _ _ _
        rw [← hq]
        exact c_CoBo3 (fun x => decide (x = l)) (r.body.take k) _ k cb wr.heap.size W4 (LT.keep E4) (fun x _ ta' tn' tc' W' e' ht' => c_bo3 x l ta' ta tn' tn tc' tc _ W' ht' (ht.keep (ext_trans E4 e')) (B4.ext e'))
      have y2 := keep E4 y2
      have FIN0 : Hid (q = false → ∀ w6, Ext W4 w6 → FS ob base C W1 (F ++ (tellG g 0 (r.body.take (k + 1))).map (mkF kd n)) w6) := fun hf w6 e6 => by
        rw [TK.out, GK.out, hf]
        simpa using HS.out.up (ext_trans E4 e6)
      have FIN1 : Hid (q = true → ∀ w6, FS ob base C W1 (F ++ ((tellG g 0 (r.body.take k)).map (mkF kd n) ++ [⟨kd, n, k, ⟨#[]⟩⟩])) w6 → FS ob base C W1 (F ++ (tellG g 0 (r.body.take (k + 1))).map (mkF kd n)) w6) := fun hf w6 h6 => by
        rw [TK.out, GK.out, hf]
        simpa [mkF] using h6
      have TELL : Hid (∀ w6, Ext W4 w6 → Calls Tryz.prog 18 #[.int .i64 (k : Nat), .string ⟨#[]⟩, .pointer (some ⟨ob, 0, none⟩), .pointer (some ⟨lb, 0, none⟩), .pointer (some ⟨nb, 0, none⟩)] w6 fun e w' => e = .returned (.tuple #[]) ∧ FS ob base C W1 (F ++ ((tellG g 0 (r.body.take k)).map (mkF kd n) ++ [⟨kd, n, k, ⟨#[]⟩⟩])) w') := fun w6 e6 => H1.out.tell (HS.out.up (ext_trans E4 e6)) (by rw [List.length_map]; exact GL.out k) k ⟨#[]⟩
      clear hs hlk ht E0r LT hW4 E4 B4 EE z0 z1 z2 z3 z4 z5 z6 z7 HS TK GK hg hq
      cases q with
      | false =>
        go_wp2_with (go_at_call 37; (with_reducible refine CO.out.mono ?_); rintro e w6 ⟨rfl, E6⟩)
        go_roundw
        case rel => exact ⟨k + 1, HLT.out, by go_num, FIN0.out (by trivial) _ E6⟩
        case measure => have := HLT.out; simp [intOf]; omega
      | true =>
        go_wp2_with (first | (go_at_call 37; (with_reducible refine CO.out.mono ?_); rintro e w6 ⟨rfl, E6⟩) | (go_at_call 18; (with_reducible refine (TELL.out _ E6).mono ?_); rintro e w7 ⟨rfl, S7⟩; have HS7 := Lib.hid S7; clear S7) | fail)
        go_roundw
        case rel => exact ⟨k + 1, HLT.out, by go_num, FIN1.out (by trivial) _ HS7.out⟩
        case measure => have := HLT.out; simp [intOf]; omega
end Go.Proofs.YtlalgaioiapjmaaGreatDoor
namespace Go.Proofs.YtlalgaioiapjmaaGreatDoor
open Go.ChangeShapes Go.WideShapes Go.ChangeAt Go.RowKit
open K (Rule Term Atom TermsAt LitsAt RuleV Finding LitP valsP flatP)
theorem two_rules (W : World) (x y z x' y' z' : Value) : Ext W ((W.alloc (.cells #[x, y, z] 50)).alloc (.cells #[x', y', z'] 50)) ∧ Blk ((W.alloc (.cells #[x, y, z] 50)).alloc (.cells #[x', y', z'] 50)) W.heap.size 50 [x, y, z] ∧ Blk ((W.alloc (.cells #[x, y, z] 50)).alloc (.cells #[x', y', z'] 50)) (W.heap.size + 1) 50 [x', y', z'] := by
  refine ⟨ext_alloc (ext_alloc (Below.refl _ _) _) _, (Blk.new W [x, y, z] 50).ext (ext_alloc (Below.refl _ _) _), ?_⟩
  have := Blk.new (W.alloc (.cells #[x, y, z] 50)) [x', y', z'] 50
  rw [World.size_alloc] at this
  exact this
set_option maxHeartbeats 4000000 in
theorem c_withinL (r s : Rule) (ah : Option Addr) (nh ch : Nat) (ab : Option Addr) (nb cb : Nat) (ah' : Option Addr) (nh' ch' : Nat) (ab' : Option Addr) (nb' cb' : Nat) (w : World) (hr : RuleV w r ah nh ch ab nb cb) (hs : RuleV w s ah' nh' ch' ab' nb' cb') :
    Calls Tryz.prog 44 #[.agg #[.string r.head.pred, .slice ah nh ch, .slice ab nb cb], .agg #[.string s.head.pred, .slice ah' nh' ch', .slice ab' nb' cb']] w fun e w' => e = .returned (.bool (K.withinL r s)) ∧ Ext w w' := by
  obtain ⟨q, hq⟩ : ∃ q, (K.laid r s).2.isSome = q := ⟨_, rfl⟩
  obtain ⟨er, her⟩ : ∃ er, (K.laid r s).1 = er := ⟨_, rfl⟩
  obtain ⟨b, hb⟩ : ∃ b, (er == 0) = b := ⟨_, rfl⟩
  have RES : Hid (K.withinL r s = (b && q)) := by
    show _ = _
    unfold K.withinL
    rw [hq, her, ← hb, Bool.beq_eq_decide_eq]
  have CW : Hid (∀ W, Ext w W → Calls Tryz.prog 76 #[.agg #[.string r.head.pred, .slice ah nh ch, .slice ab nb cb], .agg #[.string s.head.pred, .slice ah' nh' ch', .slice ab' nb' cb']] W fun e w' => e = .returned (.tuple #[.bool q, .int .i64 er]) ∧ Ext W w') := fun W e => by
    have := K.c_Within r s ah nh ch ab nb cb ah' nh' ch' ab' nb' cb' W (hr.keep e) (hs.keep e)
    rw [hq, her] at this
    exact this
  clear hr hs hq her
  go_enter Tryz.func44, Tryz.ntmps44
  go_upto_region 1 with (fail)
  refine wp_gen (fun W hW => ?_)
  obtain ⟨E0, B0, B1⟩ : Ext w W ∧ Blk W w.heap.size 50 [.string r.head.pred, .slice ah nh ch, .slice ab nb cb] ∧ Blk W (w.heap.size + 1) 50 [.string s.head.pred, .slice ah' nh' ch', .slice ab' nb' cb'] := by rw [hW]; exact two_rules _ _ _ _ _ _ _
  have x0 := B0.cell (i := 0) rfl
  have x1 := B0.cell (i := 1) rfl
  have x2 := B0.cell (i := 2) rfl
  have y0 := B1.cell (i := 0) rfl
  have y1 := B1.cell (i := 1) rfl
  have y2 := B1.cell (i := 2) rfl
  have HE := Lib.hid E0
  clear hW E0 B0 B1
  cases b
  all_goals
    go_wp2_with (go_at_call 76; (with_reducible refine (CW.out _ HE.out).mono ?_); rintro e w2 ⟨rfl, hE⟩)
    go_returns
    exact ⟨by rw [RES.out]; rfl, ext_trans HE.out hE⟩
def dropR (r : Rule) (i : Nat) : Rule := ⟨r.head, r.body.take i ++ r.body.drop (i + 1)⟩
theorem res_ruleW {fn : Func} {t : Tmp} {tmps : Array Value} {w : World} {b : Nat} {x y z : Value} (hf : fn.results = #[.cell t 50]) (ht : tmps.getD t undef = .pointer (some ⟨b, 0, none⟩)) (h : Blk w b 50 [x, y, z]) : (results fn tmps).run Tryz.prog w = .ok (.agg #[x, y, z]) w := by
  have h0 := h.cell (i := 0) rfl
  have h1 := h.cell (i := 1) rfl
  have h2 := h.cell (i := 2) rfl
  have ht' : tmps[t]?.getD undef = .pointer (some ⟨b, 0, none⟩) := by rw [← ht]; simp
  simp only [results, hf]
  go_simp
theorem flatP_drop (ps : List LitP) (i : Nat) (h : i ≤ ps.length) (j : Nat) : (flatP (ps.drop i))[j]? = (flatP ps)[i * 8 + j]? := by
  have e : flatP ps = flatP (ps.take i) ++ flatP (ps.drop i) := by rw [← K.flatP_append, List.take_append_drop]
  rw [e, List.getElem?_append_right (by rw [K.flatP_len, List.length_take]; omega), K.flatP_len, List.length_take, Nat.min_eq_left h, Nat.add_sub_cancel_left]
theorem flatP_take (ps : List LitP) (i : Nat) (j : Nat) (u : Value) (h : (flatP (ps.take i))[j]? = some u) : (flatP ps)[j]? = some u := by
  have e : flatP ps = flatP (ps.take i) ++ flatP (ps.drop i) := by rw [← K.flatP_append, List.take_append_drop]
  rw [e, List.getElem?_append_left (List.getElem?_eq_some_iff.1 h).1]
  exact h
set_option maxRecDepth 100000 in
set_option maxHeartbeats 4000000 in
theorem c_without (r : Rule) (ah : Option Addr) (nh ch : Nat) (ab : Option Addr) (nb cb : Nat) (i : Nat) (w : World) (hr : RuleV w r ah nh ch ab nb cb) (hi : i < nb) :
    Calls Tryz.prog 42 #[.agg #[.string r.head.pred, .slice ah nh ch, .slice ab nb cb], .int .i64 (i : Nat)] w fun e w' => ∃ a' n' c', e = .returned (.agg #[.string r.head.pred, .slice ah nh ch, .slice a' n' c']) ∧ RuleV w' (dropR r i) ah nh ch a' n' c' ∧ Ext w w' := by
  obtain ⟨ps, hps, hok, hcells⟩ := hr.body.parts
  have hpl : ps.length = nb := by rw [← hr.body.2.1, ← hps, List.length_map]
  obtain ⟨l0, b, off, _, rfl, _⟩ := hr.body.2.at hi
  have hcap := hr.bcap.1
  have hnb := hr.body.1
  have HR := Lib.hid hr
  have HOK := Lib.hid hok
  have HPS := Lib.hid hps
  have HC := Lib.hid hcells
  have HPL := Lib.hid hpl
  have hic : (i : Int) ≤ (cb : Int) := by omega
  have hin : (i : Int) + 1 ≤ (nb : Int) := by omega
  have hin2 : (nb : Int) ≤ (cb : Int) := by omega
  have HI := Lib.hid hi
  clear hr hok hps hcells hpl
  go_enter Tryz.func42, Tryz.ntmps42
  go_upto_region 1 with (fail)
  refine wp_gen (fun W hW => ?_)
  obtain ⟨E0, B0, B1⟩ : Ext w W ∧ Blk W w.heap.size 50 [.string r.head.pred, .slice ah nh ch, .slice (some ⟨b, off, none⟩) nb cb] ∧ Blk W (w.heap.size + 1) 50 [.string ⟨#[]⟩, .slice none 0 0, .slice none 0 0] := by rw [hW]; exact two_rules _ _ _ _ _ _ _
  have x2 := B0.cell (i := 2) rfl
  have HB0 := Lib.hid B0
  have HB1 := Lib.hid B1
  have HE := Lib.hid E0
  clear hW E0 B0 B1
  have hwr : IntKind.i64.wrap ((i : Int) + 1) = (i : Int) + 1 := by
    have := HI.out
    rw [IntKind.wrap_i64]
    omega
  have hi0 : (0 : Int) ≤ (i : Int) + 1 := by omega
  obtain ⟨a2, ha2⟩ : ∃ a2, (if cb = i + 1 then some (⟨b, off, none⟩ : Addr) else some ⟨b, off + (i + 1) * 8, none⟩) = a2 := ⟨_, rfl⟩
  have CC : Hid (∀ W' bb, Ext w W' → W'.cell? ⟨bb, 0, none⟩ = some (.slice (some ⟨b, off, none⟩) i cb) → W'.cell? ⟨bb, 1, none⟩ = some (.slice a2 (nb - (i + 1)) (cb - (i + 1))) → Calls Tryz.prog 73 #[.slice (some ⟨bb, 0, none⟩) 2 2] W' fun e w' => ∃ a' c', e = .returned (.slice a' (i + (nb - (i + 1))) c') ∧ w'.ownsRow W'.heap.size 47 8 (.slice a' (i + (nb - (i + 1))) c') (i + (nb - (i + 1))) (flatP (ps.take i ++ ps.drop (i + 1))) ∧ Ext W' w') := fun W' bb e c0 c1 => by
    have hl := HPL.out
    have hii := HI.out
    refine K.c_Concat (ps.take i) (ps.drop (i + 1)) bb (some ⟨b, off, none⟩) i cb a2 (nb - (i + 1)) (cb - (i + 1)) W' c0 c1 (by rw [List.length_take]; omega) (by rw [List.length_drop]; omega) (by omega) (by intro h; cases h) (by intro h; rw [← ha2] at h; split at h <;> cases h) (fun ad ha j u hu => keep e (HC.out ad ha j u (flatP_take ps i j u hu))) (fun ad ha j u hu => ?_)
    rw [← ha2] at ha
    split at ha
    · rename_i hcb
      have : ps.drop (i + 1) = [] := List.drop_eq_nil_of_le (by omega)
      rw [this] at hu
      simp [flatP] at hu
    · cases ha
      rw [flatP_drop ps (i + 1) (by omega)] at hu
      have := keep e (HC.out _ rfl _ u hu)
      rw [Addr.add_lit] at this ⊢
      rw [show off + (i + 1) * 8 + j = off + ((i + 1) * 8 + j) by omega]
      exact this
  have TP : ∀ t : TypeId, ∀ x y : Value, Ext w (W.alloc (.cells #[x, y] t)).drew ∧ (W.alloc (.cells #[x, y] t)).drew.cell? ⟨W.heap.size, 0, none⟩ = some x ∧ (W.alloc (.cells #[x, y] t)).drew.cell? ⟨W.heap.size, 1, none⟩ = some y ∧ Blk (W.alloc (.cells #[x, y] t)).drew w.heap.size 50 [.string r.head.pred, .slice ah nh ch, .slice (some ⟨b, off, none⟩) nb cb] ∧ Blk (W.alloc (.cells #[x, y] t)).drew (w.heap.size + 1) 50 [.string ⟨#[]⟩, .slice none 0 0, .slice none 0 0] ∧ w.heap.size + 2 ≤ (W.alloc (.cells #[x, y] t)).drew.heap.size := fun t x y => by
    have B := (Blk.new W [x, y] t).ext (ext_drew (Below.refl _ _))
    have e := ext_drew (ext_alloc (Below.refl _ W : Ext W W) (.cells #[x, y] t))
    refine ⟨ext_trans HE.out e, B.cell (i := 0) rfl, B.cell (i := 1) rfl, HB0.out.ext e, HB1.out.ext e, ?_⟩
    have := HB1.out.lt
    have := e.size
    omega
  have TPH := Lib.hid TP
  obtain ⟨rb, hrb⟩ : ∃ rb, w.heap.size = rb := ⟨_, rfl⟩
  rw [hrb] at x2 TPH ⊢
  have HRB := Lib.hid hrb
  clear TP hrb
  go_still_tail 9, (by kernel_rfl)
  change wpList _ _ _ _ _ W.drew
  clear ha2
  go_upto_region 2 with (go_at_call 73; (with_reducible refine (CC.out _ _ (TPH.out _ _ _).1 (TPH.out _ _ _).2.1 (TPH.out _ _ _).2.2.1).mono ?_); rintro e w3 ⟨a3, c3, rfl, own3, E3⟩; obtain ⟨t1, t2, t3, t4, t5, t6⟩ := TPH.out 48 (.slice (some ⟨b, off, none⟩) i cb) (.slice a2 (nb - (i + 1)) (cb - (i + 1))); have b3 := t4.ext E3; have b4 := t5.ext E3; have z0 := b3.cell (i := 0) rfl; have z1 := b3.cell (i := 1) rfl; have z2 := b3.cell (i := 2) rfl; have zf := b3.free; have v0 := b4.cell (i := 0) rfl; have v1 := b4.cell (i := 1) rfl; have v2 := b4.cell (i := 2) rfl; have vf := b4.free)
  go_wp2
  refine bodyPost_ret (res_ruleW rfl rfl ((((b4.other (p := ⟨rb, 2, none⟩) (by simp) (.slice a3 (i + (nb - (i + 1))) c3)).set 0 (.string r.head.pred)).set 1 (.slice ah nh ch)).set 2 (.slice a3 (i + (nb - (i + 1))) c3))) rfl ?_
  have b9 : ButS (fun x => x = rb ∨ x = rb + 1) w3 ((((w3.setCell ⟨rb, 2, none⟩ (.slice a3 (i + (nb - (i + 1))) c3)).setCell ⟨rb + 1, 0, none⟩ (.string r.head.pred)).setCell ⟨rb + 1, 1, none⟩ (.slice ah nh ch)).setCell ⟨rb + 1, 2, none⟩ (.slice a3 (i + (nb - (i + 1))) c3)) := ((((ButS.refl (fun x => x = rb ∨ x = rb + 1) w3).set (.inl (.inl rfl)) _ _).set (.inl (.inr rfl)) _ _).set (.inl (.inr rfl)) _ _).set (.inl (.inr rfl)) _ _
  have hw := HRB.out
  have e3 : Ext w w3 := ext_trans t1 E3
  have EF : Ext w ((((w3.setCell ⟨rb, 2, none⟩ (.slice a3 (i + (nb - (i + 1))) c3)).setCell ⟨rb + 1, 0, none⟩ (.string r.head.pred)).setCell ⟨rb + 1, 1, none⟩ (.slice ah nh ch)).setCell ⟨rb + 1, 2, none⟩ (.slice a3 (i + (nb - (i + 1))) c3)) := by
    have b0 : ButS (fun x => x = rb ∨ x = rb + 1) w w3 := ⟨e3.os, e3.tape, e3.output, e3.size, fun b hb _ => e3.block b hb⟩
    have b1 := b0.trans b9
    exact ⟨b1.os, b1.tape, b1.output, b1.size, fun b hb => b1.block b hb (by omega)⟩
  have own9 := b9.own own3 (fun x hx q => by have := (own3.lt x hx).1; omega)
  have hl := HPL.out
  have hii := HI.out
  refine ⟨a3, _, c3, rfl, ⟨HR.out.pred, HR.out.terms.keep EF, ?_, HR.out.hcap, cap_of_own own9⟩, EF⟩
  have L := K.own_litsP (rest := []) (n := i + (nb - (i + 1))) (by rw [List.append_nil]; exact own9) (by rw [List.length_append, List.length_take, List.length_drop]; omega) (by omega) (fun q hq => (HOK.out q (by
    rcases List.mem_append.1 hq with h | h
    · exact List.mem_of_mem_take h
    · exact List.mem_of_mem_drop h)).keep EF)
  rw [List.map_append, List.map_take, List.map_drop, HPS.out] at L
  exact L
def spareB (r : Rule) (i : Nat) : Bool := K.plain r && (K.plain (dropR r i) && K.withinL (dropR r i) r)
def look5 (r : Rule) : List Tell := tellG (fun i (_ : K.Lit) => if spareB r i = true then [(i, ⟨#[]⟩)] else []) 0 r.body
set_option maxRecDepth 100000 in
set_option maxHeartbeats 4000000 in
theorem c_look5 {w0 W : World} {ob base lb nb : Nat} {kd : Int} {n : Nat} {F : List Finding} {C : Nat → Prop} (h : LookIn w0 ob base lb nb kd n F C W) (r : Rule) (ah : Option Addr) (nh ch : Nat) (ab : Option Addr) (bn cb : Nat) (hr : RuleV w0 r ah nh ch ab bn cb) (hfew : bn ≤ 64) :
    Calls Tryz.prog 41 #[.int .i64 (n : Nat), .agg #[.string r.head.pred, .slice ah nh ch, .slice ab bn cb], .func (.func 18) #[] #[.pointer (some ⟨ob, 0, none⟩), .pointer (some ⟨lb, 0, none⟩), .pointer (some ⟨nb, 0, none⟩)]] W (LookPost ob base C W F ((look5 r).map (mkF kd n))) := by
  have H := Lib.hid h
  have HR := Lib.hid hr
  have HL := Lib.hid hr.body.2.1
  obtain ⟨g, hg⟩ : ∃ g : Nat → K.Lit → List Tell, (fun i (_ : K.Lit) => if spareB r i = true then [(i, (⟨#[]⟩ : ByteArray))] else []) = g := ⟨_, rfl⟩
  have LK : Hid (look5 r = tellG g 0 r.body) := by
    show _ = _
    rw [← hg]
    rfl
  have GL : Hid (∀ k, (tellG g 0 (r.body.take k)).length ≤ 100000) := fun k => by
    have h1 := tellG_len g 1 (fun i l => by rw [← hg]; dsimp only; split <;> simp) 0 (r.body.take k)
    have h3 := HL.out
    have h4 := List.length_take_le' k r.body
    omega
  clear h hr
  go_enter Tryz.func41, Tryz.ntmps41
  go_upto_region 1 with (fail)
  refine wp_gen (fun W1 hW => ?_)
  obtain ⟨E0, x0, x1, x2⟩ : Ext W W1 ∧ W1.cell? ⟨W.heap.size, 0, none⟩ = some (.string r.head.pred) ∧ W1.cell? ⟨W.heap.size, 1, none⟩ = some (.slice ah nh ch) ∧ W1.cell? ⟨W.heap.size, 2, none⟩ = some (.slice ab bn cb) := by rw [hW]; exact box_rule _ _ _ _
  have H1 := Lib.hid (H.out.up E0)
  have HE := Lib.hid E0
  have NC : ¬ C W.heap.size := H.out.notC (Nat.le_refl _)
  obtain ⟨rb, hrb⟩ : ∃ rb, W.heap.size = rb := ⟨_, rfl⟩
  rw [hrb] at x0 x1 x2 NC ⊢
  clear hW E0 hrb
  go_wp2
  go_loopw [11] (fun v wr => ∃ k : Nat, k ≤ bn ∧ v = .int .i64 (k : Int) ∧ FS ob base C W1 (F ++ (tellG g 0 (r.body.take k)).map (mkF kd n)) wr) (fun v _ => bn - (intOf v).toNat)
  case atStart => exact ⟨0, Nat.zero_le _, rfl, by simpa [tellG] using FS.start H1.out.fj⟩
  case round =>
    obtain ⟨k, hk, rfl, hs⟩ := hrel
    have HS := Lib.hid hs
    by_cases hlt : ¬ k < bn
    · have hki : ¬ (k : Int) < (bn : Int) := by omega
      clear hs
      go_wp2
      go_end0
      rw [LK.out]
      have := HS.out
      rw [List.take_of_length_le (by have := HL.out; omega)] at this
      exact LookPost.mk HE.out this
    · have hlt : k < bn := by omega
      have hki : (k : Int) < (bn : Int) := by omega
      have E0r := H1.out.keepExt hs
      have y0 := hs.cell NC x0
      have y1 := hs.cell NC x1
      have y2 := hs.cell NC x2
      obtain ⟨l, hlk⟩ : ∃ l, r.body[k]? = some l := ⟨_, List.getElem?_eq_getElem (by have := HL.out; omega)⟩
      have TK : Hid (tellG g 0 (r.body.take (k + 1)) = tellG g 0 (r.body.take k) ++ g k l) := tellG_take g hlk
      obtain ⟨q1, hq1⟩ : ∃ q, K.plain r = q := ⟨_, rfl⟩
      obtain ⟨q2, hq2⟩ : ∃ q, K.plain (dropR r k) = q := ⟨_, rfl⟩
      obtain ⟨q3, hq3⟩ : ∃ q, K.withinL (dropR r k) r = q := ⟨_, rfl⟩
      have GK : Hid (g k l = if (q1 && (q2 && q3)) = true then [(k, ⟨#[]⟩)] else []) := by
        show _ = _
        rw [← hg, ← hq1, ← hq2, ← hq3]
        rfl
      have HLT := Lib.hid hlt
      have HRr := HR.out.keep E0r
      have CW := Lib.hid (c_without r ah nh ch ab bn cb k wr HRr hlt)
      have CP1 : Hid (∀ w5, Ext wr w5 → Calls Tryz.prog 43 #[.agg #[.string r.head.pred, .slice ah nh ch, .slice ab bn cb]] w5 fun e w' => e = .returned (.bool q1) ∧ Ext w5 w') := fun w5 e => by
        rw [← hq1]
        exact K.c_Plain r ah nh ch ab bn cb w5 (HRr.keep e)
      have CP2 : Hid (∀ w5 a5 n5 c5, RuleV w5 (dropR r k) ah nh ch a5 n5 c5 → Calls Tryz.prog 43 #[.agg #[.string r.head.pred, .slice ah nh ch, .slice a5 n5 c5]] w5 fun e w' => e = .returned (.bool q2) ∧ Ext w5 w') := fun w5 a5 n5 c5 h => by
        rw [← hq2]
        exact K.c_Plain (dropR r k) ah nh ch a5 n5 c5 w5 h
      have CWI : Hid (∀ w5 a5 n5 c5, Ext wr w5 → RuleV w5 (dropR r k) ah nh ch a5 n5 c5 → Calls Tryz.prog 44 #[.agg #[.string r.head.pred, .slice ah nh ch, .slice a5 n5 c5], .agg #[.string r.head.pred, .slice ah nh ch, .slice ab bn cb]] w5 fun e w' => e = .returned (.bool q3) ∧ Ext w5 w') := fun w5 a5 n5 c5 e h => by
        rw [← hq3]
        exact c_withinL (dropR r k) r ah nh ch a5 n5 c5 ah nh ch ab bn cb w5 h (HRr.keep e)
      have FIN0 : Hid ((q1 && (q2 && q3)) = false → ∀ w6, Ext wr w6 → FS ob base C W1 (F ++ (tellG g 0 (r.body.take (k + 1))).map (mkF kd n)) w6) := fun hf w6 e6 => by
        rw [TK.out, GK.out, hf]
        simpa using HS.out.up e6
      have FIN1 : Hid ((q1 && (q2 && q3)) = true → ∀ w6, FS ob base C W1 (F ++ ((tellG g 0 (r.body.take k)).map (mkF kd n) ++ [⟨kd, n, k, ⟨#[]⟩⟩])) w6 → FS ob base C W1 (F ++ (tellG g 0 (r.body.take (k + 1))).map (mkF kd n)) w6) := fun hf w6 h6 => by
        rw [TK.out, GK.out, hf]
        simpa [mkF] using h6
      have TELL : Hid (∀ w6, Ext wr w6 → Calls Tryz.prog 18 #[.int .i64 (k : Nat), .string ⟨#[]⟩, .pointer (some ⟨ob, 0, none⟩), .pointer (some ⟨lb, 0, none⟩), .pointer (some ⟨nb, 0, none⟩)] w6 fun e w' => e = .returned (.tuple #[]) ∧ FS ob base C W1 (F ++ ((tellG g 0 (r.body.take k)).map (mkF kd n) ++ [⟨kd, n, k, ⟨#[]⟩⟩])) w') := fun w6 e6 => H1.out.tell (HS.out.up e6) (by rw [List.length_map]; exact GL.out k) k ⟨#[]⟩
      clear hs hlk E0r HRr HS TK GK hg hq1 hq2 hq3
      go_upto_region 5 with (go_at_call 42; (with_reducible refine CW.out.mono ?_); rintro e w3 ⟨a3, n3, c3, rfl, r3, E3⟩; have HR3 := Lib.hid r3; have HE3 := Lib.hid E3; have y0 := keep E3 y0; have y1 := keep E3 y1; have y2 := keep E3 y2; clear r3 E3)
      refine wp_gen (fun W4 hW4 => ?_)
      obtain ⟨E4, v0, v1, v2⟩ : Ext w3 W4 ∧ W4.cell? ⟨w3.heap.size, 0, none⟩ = some (.string r.head.pred) ∧ W4.cell? ⟨w3.heap.size, 1, none⟩ = some (.slice ah nh ch) ∧ W4.cell? ⟨w3.heap.size, 2, none⟩ = some (.slice a3 n3 c3) := by rw [hW4]; exact box_rule _ _ _ _
      have y0 := keep E4 y0
      have y1 := keep E4 y1
      have y2 := keep E4 y2
      have HE4 := Lib.hid (ext_trans HE3.out E4)
      have HR4 := Lib.hid (HR3.out.keep E4)
      have CPW := Lib.hid (CP1.out W4 HE4.out)
      obtain ⟨sb, hsb⟩ : ∃ sb, w3.heap.size = sb := ⟨_, rfl⟩
      rw [hsb] at v0 v1 v2 ⊢
      clear hW4 E4 hsb CW CP1 HR3 HE3
      cases q1 with
      | false =>
        go_wp2_with (go_at_call 43; (with_reducible refine CPW.out.mono ?_); rintro e w5 ⟨rfl, E5⟩)
        go_roundw
        case rel => exact ⟨k + 1, HLT.out, by go_num, FIN0.out (by trivial) _ (ext_trans HE4.out E5)⟩
        case measure => have := HLT.out; simp [intOf]; omega
      | true =>
        cases q2 with
        | false =>
          go_wp2_with (first | (go_at_call 43; (with_reducible refine CPW.out.mono ?_); rintro e w5 ⟨rfl, E5⟩; have v0 := keep E5 v0; have v1 := keep E5 v1; have v2 := keep E5 v2) | (go_at_call 43; (with_reducible refine (CP2.out _ _ _ _ (HR4.out.keep E5)).mono ?_); rintro e w6 ⟨rfl, E6⟩) | fail)
          go_roundw
          case rel => exact ⟨k + 1, HLT.out, by go_num, FIN0.out (by trivial) _ (ext_trans HE4.out (ext_trans E5 E6))⟩
          case measure => have := HLT.out; simp [intOf]; omega
        | true =>
          cases q3 with
          | false =>
            go_wp2_with (first | (go_at_call 43; (with_reducible refine CPW.out.mono ?_); rintro e w5 ⟨rfl, E5⟩; have v0 := keep E5 v0; have v1 := keep E5 v1; have v2 := keep E5 v2; have y0 := keep E5 y0; have y1 := keep E5 y1; have y2 := keep E5 y2) | (go_at_call 43; (with_reducible refine (CP2.out _ _ _ _ (HR4.out.keep E5)).mono ?_); rintro e w6 ⟨rfl, E6⟩; have v0 := keep E6 v0; have v1 := keep E6 v1; have v2 := keep E6 v2; have y0 := keep E6 y0; have y1 := keep E6 y1; have y2 := keep E6 y2) | (go_at_call 44; (with_reducible refine (CWI.out _ _ _ _ (ext_trans HE4.out (ext_trans E5 E6)) (HR4.out.keep (ext_trans E5 E6))).mono ?_); rintro e w7 ⟨rfl, E7⟩) | fail)
            go_roundw
            case rel => exact ⟨k + 1, HLT.out, by go_num, FIN0.out (by trivial) _ (ext_trans HE4.out (ext_trans E5 (ext_trans E6 E7)))⟩
            case measure => have := HLT.out; simp [intOf]; omega
          | true =>
            go_wp2_with (first | (go_at_call 43; (with_reducible refine CPW.out.mono ?_); rintro e w5 ⟨rfl, E5⟩; have v0 := keep E5 v0; have v1 := keep E5 v1; have v2 := keep E5 v2; have y0 := keep E5 y0; have y1 := keep E5 y1; have y2 := keep E5 y2) | (go_at_call 43; (with_reducible refine (CP2.out _ _ _ _ (HR4.out.keep E5)).mono ?_); rintro e w6 ⟨rfl, E6⟩; have v0 := keep E6 v0; have v1 := keep E6 v1; have v2 := keep E6 v2; have y0 := keep E6 y0; have y1 := keep E6 y1; have y2 := keep E6 y2) | (go_at_call 44; (with_reducible refine (CWI.out _ _ _ _ (ext_trans HE4.out (ext_trans E5 E6)) (HR4.out.keep (ext_trans E5 E6))).mono ?_); rintro e w7 ⟨rfl, E7⟩) | (go_at_call 18; (with_reducible refine (TELL.out _ (ext_trans HE4.out (ext_trans E5 (ext_trans E6 E7)))).mono ?_); rintro e w8 ⟨rfl, S8⟩; have HS8 := Lib.hid S8; clear S8) | fail)
            go_roundw
            case rel => exact ⟨k + 1, HLT.out, by go_num, FIN1.out (by trivial) _ HS8.out⟩
            case measure => have := HLT.out; simp [intOf]; omega
end Go.Proofs.YtlalgaioiapjmaaGreatDoor
