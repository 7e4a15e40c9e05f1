/- What lint finds in the program of the law's known. The walks of the law's num, texts, lent and kept. The walk of the law's known. What the law LintOwn's calls bring, in short; copies in rows of their own. -/
import Derived.Test.YtlalgaioiapjmaaGreatDoorG4
import Derived.Test.YtlalgaioiapjmaaGreatDoorG22
import Derived.Test.YtlalgaioiapjmaaGreatDoorG40
import Derived.Test.YtlalgaioiapjmaaGreatDoorG42
import Derived.Test.YtlalgaioiapjmaaGreatDoorG44
namespace Go.Proofs.YtlalgaioiapjmaaGreatDoor
open K (Rule Finding adj)
def xT : K.Term := ⟨1, ⟨#[88]⟩⟩
def qL : K.Lit := ⟨1, ⟨⟨#[113]⟩, [xT]⟩, 0, ⟨0, ⟨#[]⟩⟩, ⟨0, ⟨#[]⟩⟩⟩
def cL : K.Lit := ⟨3, ⟨⟨#[]⟩, []⟩, 1, ⟨3, ⟨#[97]⟩⟩, ⟨3, ⟨#[98]⟩⟩⟩
def r0 : Rule := ⟨⟨⟨#[112]⟩, [xT]⟩, [qL, cL]⟩
theorem chk0 : K.checkP [r0] = 0 := by kernel_rfl
theorem pq0 : pqP [r0] = [((⟨#[112]⟩, ⟨#[113]⟩), 0)] := by kernel_rfl
theorem edges0 {x : K.Edge} (h : x ∈ edgesQ [r0]) : x = edgeQ (namesQ [r0]) ((⟨#[112]⟩, ⟨#[113]⟩), 0) := by
  have h := (List.mergeSort_perm _ _).mem_iff.1 h
  rw [pq0] at h
  exact List.mem_singleton.1 h
theorem strata0 : strataE [r0] = 0 := by
  unfold strataE
  rw [if_neg (by rw [chk0]; simp), if_neg]
  unfold K.roundW
  rw [Bool.not_eq_true, List.any_eq_false]
  intro x hx
  rw [edges0 hx]
  simp [edgeQ]
theorem names0 (x : ByteArray) : x ∈ namesQ [r0] ↔ x = ⟨#[112]⟩ ∨ x = ⟨#[113]⟩ := by
  rw [(namesQ_perm [r0]).mem_iff]
  have e : (nmP [r0]).map (·.1) = [⟨#[112]⟩, ⟨#[113]⟩] := by kernel_rfl
  rw [e]
  simp
theorem pq_ne : (⟨#[112]⟩ : ByteArray) ≠ ⟨#[113]⟩ := by decide
theorem adj0 : adj (edgesQ [r0]) ((namesQ [r0]).idxOf ⟨#[113]⟩) = [] := by
  unfold K.adj
  rw [List.map_eq_nil_iff, List.filter_eq_nil_iff]
  intro x hx
  rw [edges0 hx]
  simp only [edgeQ, decide_eq_true_eq, Int.ofNat_inj]
  intro h
  exact pq_ne (idxOf_inj ((names0 _).2 (.inl rfl)) (by exact_mod_cast h))
theorem rch0 {x y : Nat} (h : RchR (edgesQ [r0]) x y) (hx : x = (namesQ [r0]).idxOf ⟨#[113]⟩) : y = x := by
  induction h with
  | refl => rfl
  | step _ hz ih =>
    rw [ih, hx, adj0] at hz
    cases hz
open Classical in
theorem asked0 : (⟨#[112]⟩ : ByteArray) ∉ askedV [r0] [⟨#[113]⟩] := by
  unfold askedV belowL
  intro h
  simp only [List.flatMap_cons, List.flatMap_nil, List.append_nil, List.mem_cons] at h
  rcases h with h | h
  · exact pq_ne h
  · rw [if_pos ((names0 _).2 (.inr rfl))] at h
    obtain ⟨i, hi, he⟩ := List.mem_map.1 h
    unfold rchL at hi
    have hr := (List.mem_filter.1 hi).2
    rw [decide_eq_true_eq] at hr
    rw [rch0 hr rfl] at he
    have hm : (⟨#[113]⟩ : ByteArray) ∈ namesQ [r0] := (names0 _).2 (.inr rfl)
    have hl := List.idxOf_lt_length_of_mem hm
    rw [List.getD_eq_getElem?_getD, List.getElem?_eq_getElem hl, List.getElem_idxOf hl] at he
    exact pq_ne he.symm
theorem l1 : look1 r0 = [(1, ⟨#[]⟩)] := by kernel_rfl
theorem l2 : look2 r0 = [] := by kernel_rfl
theorem l3 : look3 r0 = [] := by kernel_rfl
theorem l4 : look4 r0 = [] := by kernel_rfl
theorem l5 : look5 r0 = [] := by kernel_rfl
theorem lA : lookA [r0] 0 r0 = [] := by kernel_rfl
theorem lW : lookW [r0] 0 r0 = [] := by kernel_rfl
theorem l80 : look8 (liveV [r0] []) r0 = [(0, ⟨#[]⟩)] := by kernel_rfl
theorem l81 : look8 (liveV [r0] [⟨#[113]⟩]) r0 = [] := by kernel_rfl
theorem l90 (L : List ByteArray) : look9 [] L r0 = [] := rfl
theorem l91 : look9 [⟨#[113]⟩] (askedV [r0] [⟨#[113]⟩]) r0 = [(0, ⟨#[112]⟩)] := by
  unfold look9
  rw [if_pos]
  · rfl
  · simp only [Bool.and_eq_true, Bool.not_eq_true', decide_eq_false_iff_not]
    exact ⟨rfl, asked0⟩
theorem lint0 : lintF [r0] [] [] = [⟨1, 0, 1, ⟨#[]⟩⟩, ⟨8, 0, 0, ⟨#[]⟩⟩] := by
  unfold lintF collG ruleF looksT
  rw [l1, l2, l3, l4, l5, lA, lW, l80, l90]
  rfl
theorem lint1 : lintF [r0] [⟨#[113]⟩] [⟨#[113]⟩] = [⟨1, 0, 1, ⟨#[]⟩⟩, ⟨9, 0, 0, ⟨#[112]⟩⟩] := by
  unfold lintF collG ruleF looksT
  rw [l1, l2, l3, l4, l5, lA, lW, l81, l91]
  rfl
/-- Two findings in order are one list. -/
theorem two_F {F : List Finding} {x y : Finding} (hP : F.Perm [x, y]) (hR : RisF F) (hxy : ltN x y) : F = [x, y] := by
  have hl := hP.length_eq
  match F, hl with
  | [u, v], _ =>
    have hu : u ∈ [x, y] := hP.mem_iff.1 (by simp)
    rcases List.mem_cons.1 hu with rfl | hu
    · have := (List.perm_cons _).1 hP
      rw [List.singleton_perm_singleton.1 this]
    · rw [List.mem_singleton.1 hu] at hP hR ⊢
      have h2 := (hP.trans (List.Perm.swap y x [])).cons_inv
      rw [List.singleton_perm_singleton.1 h2] at hR
      exact absurd hxy (hR 0 1 y x (by omega) rfl rfl)
theorem find0 {F : List Finding} (hP : F.Perm (lintF [r0] [] [])) (hR : RisF F) : F = [⟨1, 0, 1, ⟨#[]⟩⟩, ⟨8, 0, 0, ⟨#[]⟩⟩] := by
  rw [lint0] at hP
  exact two_F hP hR (.inr ⟨rfl, .inl (by decide)⟩)
theorem find1 {F : List Finding} (hP : F.Perm (lintF [r0] [⟨#[113]⟩] [⟨#[113]⟩])) (hR : RisF F) : F = [⟨1, 0, 1, ⟨#[]⟩⟩, ⟨9, 0, 0, ⟨#[112]⟩⟩] := by
  rw [lint1] at hP
  exact two_F hP hR (.inr ⟨rfl, .inl (by decide)⟩)
end Go.Proofs.YtlalgaioiapjmaaGreatDoor
namespace Go.Proofs.YtlalgaioiapjmaaGreatDoor
open Go.ChangeShapes Go.WideShapes Go.ChangeAt Go.RowKit
theorem c_num30 (e : Int) (w : World) : Calls Tryz.prog 9 #[.int .i64 e] w fun r w' => r = .returned (.int .i64 e) ∧ w' = w := by
  go_enter Tryz.func9, Tryz.ntmps9
  go_wp2
  go_returns
  exact ⟨rfl, rfl⟩
set_option maxRecDepth 100000 in
set_option maxHeartbeats 4000000 in
theorem c_texts (ss : List ByteArray) (a a' : Option Addr) (n c c' : Nat) (w : World) (h1 : K.StrsAt w a n ss) (h2 : K.StrsAt w a' n ss) : Calls Tryz.prog 10 #[.slice a n c, .slice a' n c'] w fun e w' => e = .returned (.bool true) ∧ Ext w w' := by
  have H1 := Lib.hid h1
  have H2 := Lib.hid h2
  have hn := h1.1
  have hself : ((n : Int) != (n : Int)) = false := by simp
  clear h1 h2
  go_enter Tryz.func10, Tryz.ntmps10
  go_wp2
  go_loopw [5] (fun v wr => ∃ k : Nat, k ≤ n ∧ v = .int .i64 (k : Int) ∧ Ext w wr) (fun v _ => n - (intOf v).toNat)
  case atStart => exact ⟨0, Nat.zero_le _, rfl, Below.refl _ _⟩
  case round =>
    obtain ⟨k, hk, rfl, hE⟩ := hrel
    have HE := Lib.hid hE
    by_cases hlt : ¬ k < n
    · have hki : ¬ (k : Int) < (n : Int) := by omega
      clear hE
      go_wp2
      go_returns
      exact ⟨rfl, HE.out⟩
    · have hlt : k < n := by omega
      have hki : (k : Int) < (n : Int) := by omega
      obtain ⟨x, b1, o1, hx, rfl, hc1⟩ := (H1.out.keep hE).at hlt
      obtain ⟨y, b2, o2, hy, rfl, hc2⟩ := (H2.out.keep hE).at hlt
      rw [hx] at hy
      cases hy
      have HLT := Lib.hid hlt
      clear hE hx
      go_upto_region 6 with (fail)
      go_quiet (fail)
      go_wp2
      go_roundw
      case rel => exact ⟨k + 1, HLT.out, by go_num, ext_drewN HE.out _⟩
      case measure => have := HLT.out; simp [intOf]; omega
def markS : ByteArray := ⟨#[60, 109, 97, 114, 107, 62]⟩
/-- Texts of one's own, the mark behind them. -/
def OwnS (w : World) (base : Nat) (ss : List ByteArray) (g c : Nat) : Prop := w.ownsRow base 9 1 (.slice (some ⟨g, 0, none⟩) (ss.length + 1) c) (ss.length + 1) (ss.map Value.string ++ [.string markS]) ∧ ss.length + 1 ≤ c
theorem OwnS.ext {w w' : World} {base : Nat} {ss : List ByteArray} {g c : Nat} (h : OwnS w base ss g c) (e : Ext w w') : OwnS w' base ss g c := ⟨up_ext h.1 e, h.2⟩
theorem OwnS.strs {w : World} {base : Nat} {ss : List ByteArray} {g c : Nat} (h : OwnS w base ss g c) (hn : ss.length ≤ 8796093022208) : K.StrsAt w (some ⟨g, 0, none⟩) ss.length ss := by
  refine ⟨hn, rfl, fun i s hs => ⟨g, 0, rfl, ?_⟩⟩
  have hi := (List.getElem?_eq_some_iff.1 hs).1
  have := h.1.cells (g := g) rfl i (.string s) (by rw [List.getElem?_append_left (by simpa using hi), List.getElem?_map, hs]; rfl)
  rw [Addr.add_lit] at this
  exact this
theorem OwnS.mark {w : World} {base : Nat} {ss : List ByteArray} {g c : Nat} (h : OwnS w base ss g c) : w.cell? ⟨g, ss.length, none⟩ = some (.string markS) := by
  have := h.1.cells (g := g) rfl ss.length (.string markS) (by rw [List.getElem?_append_right (by simp)]; simp)
  rw [Addr.add_lit, Nat.zero_add] at this
  exact this
theorem OwnS.few {w : World} {base : Nat} {ss : List ByteArray} {g c : Nat} (h : OwnS w base ss g c) : c ≤ maxLen := by
  rcases h.1.2 with ⟨h1, _⟩ | ⟨g', c', cur, h1, _, _, _, hm, _⟩
  · cases h1
  · cases h1
    exact hm
set_option maxRecDepth 100000 in
set_option maxHeartbeats 4000000 in
theorem c_lent (ss : List ByteArray) (a : Option Addr) (n c : Nat) (w : World) (h : K.StrsAt w a n ss) (hc : capOk a n c) (hn : n ≤ 8796093021952) : Calls Tryz.prog 6 #[.slice a n c] w fun e w' => ∃ g c', e = .returned (.slice (some ⟨g, 0, none⟩) n c') ∧ OwnS w' w.heap.size ss g c' ∧ Ext w w' := by
  obtain ⟨i0, hi, hz0, hz1, hz2⟩ := info_parts K.info_string
  have HL := Lib.hid h.2.1
  have hsrc : ∀ ad, a = some ad → ∀ j u, (ss.map Value.string)[j]? = some u → (w.alloc (.cells #[] 9)).cell? (ad.add j) = some u := fun ad ha j u hu => by
    rw [List.getElem?_map] at hu
    obtain ⟨s, hs, rfl⟩ := Option.map_eq_some_iff.1 hu
    obtain ⟨b, off, e, hcl⟩ := h.2.2 j s hs
    rw [ha] at e
    cases e
    rw [Addr.add_lit]
    exact keep (ext_alloc (Below.refl _ _) _) hcl
  have HS := Lib.hid hsrc
  have HC := Lib.hid hc
  have HF : Hid ((ss.map Value.string).length = n * 1) := by show _ = _; rw [List.length_map, h.2.1, Nat.mul_one]
  have H1 : Hid (∀ u ∈ ss.map Value.string, u.oneCell' = true) := fun u hu => by
    obtain ⟨s, _, rfl⟩ := List.mem_map.1 hu
    rfl
  have H3 : Hid (0 + n ≤ maxLen) := by show _ ≤ _; unfold maxLen; omega
  have H4 : Hid ((0 + n) * 16 ≤ 140737488355328) := by show _ ≤ _; omega
  have H5 : Hid ((0 + n) + 1 ≤ maxLen) := by show _ ≤ _; unfold maxLen; omega
  have H6 : Hid (((0 + n) + 1) * 16 ≤ 140737488355328) := by show _ ≤ _; omega
  have hown0 : (w.alloc (.cells #[] 9)).ownsRow w.heap.size 9 1 (.slice (some ⟨w.heap.size, 0, none⟩) 0 0) 0 [] := World.ownsRow_lit w #[] 0 (Nat.le_refl _) (by unfold maxLen; omega) rfl
  have HN := Lib.hid hn
  clear h hsrc hc hn
  go_enter Tryz.func6, Tryz.ntmps6
  go_wp2_with (first | (at_builtin; refine wpList_append_any rfl _ _ 25 rfl w.heap.size 9 i0 (.string ⟨#[]⟩) 1 16 Tryz.underlying25 hi hz0 hz1 hz2 rfl (by decide) _ _ _ rfl hown0 a n c (ss.map Value.string) rfl HC.out.2 HF.out HS.out H1.out H3.out H4.out (size_alloc_le (Nat.le_refl _)) ?_; intro v1 w1 own1 g1) | (at_builtin; go_loud (refine wpList_append_any rfl _ _ 25 rfl w.heap.size 9 i0 (.string ⟨#[]⟩) 1 16 Tryz.underlying25 hi hz0 hz1 hz2 rfl (by decide) _ _ _ rfl (own1.alloc _) (some ⟨w1.heap.size, 0, none⟩) 1 1 [.string markS] rfl (by intro h; cases h) rfl (fun ad e j u hu => by cases e; exact news1 w1 _ _ j u hu) (by intro u hu; rw [List.mem_singleton.1 hu]; rfl) H5.out H6.out (size_alloc_le (Nat.le_trans (size_alloc_le (Nat.le_refl _)) g1.size)) ?_); intro v2 w2 own2 g2; obtain ⟨a2, c2, rfl, hc2⟩ := own_form own2))
  have hb2 : Ext w w2 := ext_ownB (ext_alloc (ext_ownB (ext_alloc (Below.refl _ w : Ext w w) _) g1 (by intro g e; cases e; exact Nat.le_refl _)) _) g2 (fun g e => (own1.lt g e).1)
  go_returns
  obtain ⟨g, c3, e3, hg1⟩ := own_formS own2 (Nat.succ_pos _)
  cases e3
  have hl := HL.out
  refine ⟨g, c2, rfl, ⟨?_, by omega⟩, hb2⟩
  rw [hl]
  simpa using own2
set_option maxRecDepth 100000 in
set_option maxHeartbeats 4000000 in
theorem c_kept (ss : List ByteArray) (g gc : Nat) (a : Option Addr) (n c base : Nat) (w : World) (ho : OwnS w base ss g gc) (h : K.StrsAt w a n ss) : Calls Tryz.prog 12 #[.slice (some ⟨g, 0, none⟩) n gc, .slice a n c] w fun e w' => e = .returned (.bool true) ∧ Ext w w' := by
  have hl : ss.length = n := h.2.1
  have hn := h.1
  have hs := ho.strs (by rw [hl]; exact hn)
  have hm := ho.mark
  have hcc := ho.2
  have hfew := ho.few
  rw [hl] at hs hm hcc
  have CT := Lib.hid (c_texts ss (some ⟨g, 0, none⟩) a n gc c w hs h)
  have HM := Lib.hid hm
  have hm' : gc ≤ 9223372036854775807 := by unfold maxLen at hfew; omega
  have q1 : (0 : Int) ≤ (n : Int) := by omega
  have q2 : (n : Int) < (gc : Int) := by omega
  have q3 : (n : Int) + 1 ≤ (gc : Int) := by omega
  have q5 : (0 : Int) ≤ (n : Int) + 1 := by omega
  have q6 : IntKind.i64.wrap ((n : Int) + 1) = (n : Int) + 1 := by rw [IntKind.wrap_i64]; omega
  have q8 : (n : Int) < (n : Int) + 1 := by omega
  clear ho h hs hfew hl hm
  go_enter Tryz.func12, Tryz.ntmps12
  go_wp2_with (go_at_call 10; (with_reducible refine CT.out.mono ?_); rintro e w2 ⟨rfl, hE⟩; have hm2 : w2.cell? ⟨g, n, none⟩ = some (.string ⟨#[60, 109, 97, 114, 107, 62]⟩) := keep hE HM.out)
  go_returns
  exact ⟨rfl, hE⟩
end Go.Proofs.YtlalgaioiapjmaaGreatDoor
namespace Go.Proofs.YtlalgaioiapjmaaGreatDoor
open Go.ChangeShapes Go.WideShapes Go.ChangeAt Go.RowKit
open K (Rule Term Atom TermsAt LitsAt RuleV Finding)
def bodyV (tq : Nat) : List Value := [.int .i64 1, .string ⟨#[113]⟩, .slice (some ⟨tq, 0, none⟩) 1 1, .int .i64 0, .int .i64 0, .string ⟨#[]⟩, .int .i64 0, .string ⟨#[]⟩, .int .i64 3, .string ⟨#[]⟩, .slice none 0 0, .int .i64 1, .int .i64 3, .string ⟨#[97]⟩, .int .i64 3, .string ⟨#[98]⟩]
theorem terms0 {W : World} {t : Nat} (h0 : W.cell? ⟨t, 0, none⟩ = some (.int .i64 1)) (h1 : W.cell? ⟨t, 1, none⟩ = some (.string ⟨#[88]⟩)) : TermsAt W (some ⟨t, 0, none⟩) 1 [xT] := by
  refine ⟨by omega, rfl, fun i x hx => ?_⟩
  match i, hx with
  | 0, hx =>
    cases hx
    exact ⟨t, 0, rfl, h0, h1, by decide⟩
theorem rules0 {W : World} {tq th bd rl : Nat} (q0 : W.cell? ⟨tq, 0, none⟩ = some (.int .i64 1)) (q1 : W.cell? ⟨tq, 1, none⟩ = some (.string ⟨#[88]⟩)) (h0 : W.cell? ⟨th, 0, none⟩ = some (.int .i64 1)) (h1 : W.cell? ⟨th, 1, none⟩ = some (.string ⟨#[88]⟩))
    (B : ∀ j u, (bodyV tq)[j]? = some u → W.cell? ⟨bd, j, none⟩ = some u) (l0 : W.cell? ⟨rl, 0, none⟩ = some (.string ⟨#[112]⟩)) (l1 : W.cell? ⟨rl, 1, none⟩ = some (.slice (some ⟨th, 0, none⟩) 1 1)) (l2 : W.cell? ⟨rl, 2, none⟩ = some (.slice (some ⟨bd, 0, none⟩) 2 2)) : RulesAt W (some ⟨rl, 0, none⟩) 1 [r0] := by
  refine ⟨by omega, rfl, fun i x hx => ?_⟩
  match i, hx with
  | 0, hx =>
    cases hx
    refine ⟨rl, 0, rfl, _, _, _, _, _, _, l0, l1, l2, by decide, terms0 h0 h1, ⟨by omega, rfl, fun i x hx => ?_⟩, ⟨Nat.le_refl _, by simp⟩, ⟨Nat.le_refl _, by simp⟩⟩
    match i, hx with
    | 0, hx =>
      cases hx
      exact ⟨bd, 0, rfl, _, _, _, B 0 _ rfl, B 1 _ rfl, B 2 _ rfl, B 3 _ rfl, B 4 _ rfl, B 5 _ rfl, B 6 _ rfl, B 7 _ rfl, terms0 q0 q1, ⟨Nat.le_refl _, by simp⟩, by decide, by decide, by decide⟩
    | 1, hx =>
      cases hx
      exact ⟨bd, 0, rfl, _, _, _, B 8 _ rfl, B 9 _ rfl, B 10 _ rfl, B 11 _ rfl, B 12 _ rfl, B 13 _ rfl, B 14 _ rfl, B 15 _ rfl, ⟨by omega, rfl, fun i x hx => by cases hx⟩, ⟨Nat.le_refl _, by simp⟩, by decide, by decide, by decide⟩
/-- What a call of Lint brings at these programs. -/
def Two (x y : Finding) (W : World) (e : Ending) (w' : World) : Prop := ∃ g c, e = .returned (.tuple #[.slice (some ⟨g, 0, none⟩) 2 c, .int .i64 0]) ∧ Ext W w' ∧ ∀ j u, (flatF [x, y])[j]? = some u → w'.cell? ⟨g, j, none⟩ = some u
theorem two_of {given wanted : List ByteArray} {x y : Finding} {W w' : World} {e : Ending} (hf : ∀ F, F.Perm (lintF [r0] given wanted) → RisF F → F = [x, y]) (h : LintOut [r0] given wanted W e w') : Two x y W e w' := by
  obtain ⟨a, c, F, rfl, hE, own, hF⟩ := h
  rw [if_pos strata0] at hF
  obtain rfl := hf F hF.1 hF.2
  rw [strata0]
  obtain ⟨g, c', e1, _⟩ := own_formS own (by simp)
  injection e1 with e1 e2 e3
  subst e1 e3
  refine ⟨g, c, rfl, hE, fun j u hu => ?_⟩
  have := own.cells (g := g) rfl j u hu
  rw [Addr.add_lit, Nat.zero_add] at this
  exact this
theorem strs_nil (W : World) : K.StrsAt W none 0 [] := ⟨by omega, rfl, fun i x hx => by cases hx⟩
theorem strs_one {W : World} {g : Nat} (h : W.cell? ⟨g, 0, none⟩ = some (.string ⟨#[113]⟩)) : K.StrsAt W (some ⟨g, 0, none⟩) 1 [⟨#[113]⟩] := ⟨by omega, rfl, fun i x hx => by
  match i, hx with
  | 0, hx => cases hx; exact ⟨g, 0, rfl, h⟩⟩
set_option maxRecDepth 100000 in
set_option maxHeartbeats 4000000 in
theorem c_known (w : World) (hT : TabOk w) :
    Calls Tryz.prog 4 #[] w fun e w' => e = .returned (.bool true) ∧ Ext w w' := by
  have CA : Hid (∀ W a c, RulesAt W a 1 [r0] → 1 ≤ c → TabOk W → Calls Tryz.prog 7 #[.agg #[.slice a 1 c], .slice none 0 0, .slice none 0 0] W (Two ⟨1, 0, 1, ⟨#[]⟩⟩ ⟨8, 0, 0, ⟨#[]⟩⟩ W)) := fun W a c h1 h2 h3 => (c_Lint [r0] [] [] a 1 c none 0 0 none 0 0 W h1 h2 (strs_nil W) (strs_nil W) (by simp) h3).mono fun e w' h => two_of (fun F => find0) h
  have CB : Hid (∀ W a c g1 g2, RulesAt W a 1 [r0] → 1 ≤ c → TabOk W → W.cell? ⟨g1, 0, none⟩ = some (.string ⟨#[113]⟩) → W.cell? ⟨g2, 0, none⟩ = some (.string ⟨#[113]⟩) → Calls Tryz.prog 7 #[.agg #[.slice a 1 c], .slice (some ⟨g1, 0, none⟩) 1 1, .slice (some ⟨g2, 0, none⟩) 1 1] W (Two ⟨1, 0, 1, ⟨#[]⟩⟩ ⟨9, 0, 0, ⟨#[112]⟩⟩ W)) := fun W a c g1 g2 h1 h2 h3 k1 k2 => (c_Lint [r0] [⟨#[113]⟩] [⟨#[113]⟩] a 1 c _ 1 1 _ 1 1 W h1 h2 (strs_one k1) (strs_one k2) (fun s hs => by rw [List.mem_singleton.1 hs]; decide) h3).mono fun e w' h => two_of (fun F => find1) h
  go_enter Tryz.func4, Tryz.ntmps4
  go_upto_region 4 with (fail)
  refine wp_gen (fun W hW => ?_)
  have E0 : Ext w W := by rw [hW]; repeat (with_reducible (first | exact Below.refl _ _ | apply ext_alloc))
  have RW : RulesAt W (some ⟨w.heap.size + 1 + 1 + 1 + 1 + 1, 0, none⟩) 1 [r0] := by
    refine rules0 (tq := w.heap.size + 1) (th := w.heap.size + 1 + 1 + 1) (bd := w.heap.size + 1 + 1 + 1 + 1) ?_ ?_ ?_ ?_ ?_ ?_ ?_ ?_
    case refine_5 =>
      intro j u hu
      match j, hu with
      | 0, hu | 1, hu | 2, hu | 3, hu | 4, hu | 5, hu | 6, hu | 7, hu | 8, hu | 9, hu | 10, hu | 11, hu | 12, hu | 13, hu | 14, hu | 15, hu => cases hu; rw [hW]; go_simp
    all_goals (rw [hW]; go_simp)
  have b0 : W.cell? ⟨w.heap.size + 1 + 1 + 1 + 1 + 1 + 1, 0, none⟩ = some (.slice (some ⟨w.heap.size + 1 + 1 + 1 + 1 + 1, 0, none⟩) 1 1) := by rw [hW]; go_simp
  have TW := hT.ext E0
  obtain ⟨rl, hrl⟩ : ∃ rl, w.heap.size + 1 + 1 + 1 + 1 + 1 = rl := ⟨_, rfl⟩
  rw [hrl] at RW b0 ⊢
  obtain ⟨pb, hpb⟩ : ∃ pb, rl + 1 = pb := ⟨_, rfl⟩
  rw [hpb] at b0 ⊢
  have HR := Lib.hid RW
  have HT := Lib.hid TW
  have HE := Lib.hid E0
  clear hW RW TW E0 hrl hpb hT
  go_upto_region 5 with (go_at_call 7; (with_reducible refine (CA.out _ _ _ HR.out (Nat.le_refl 1) HT.out).mono ?_); rintro e w1 ⟨g1, c1, rfl, E1, C1⟩)
  have a0 : w1.cell? ⟨g1, 0, none⟩ = some (.int .i64 1) := C1 0 _ rfl
  have a1 : w1.cell? ⟨g1, 1, none⟩ = some (.int .i64 0) := C1 1 _ rfl
  have a2 : w1.cell? ⟨g1, 2, none⟩ = some (.int .i64 1) := C1 2 _ rfl
  have a3 : w1.cell? ⟨g1, 3, none⟩ = some (.string ⟨#[]⟩) := C1 3 _ rfl
  have a4 : w1.cell? ⟨g1, 4, none⟩ = some (.int .i64 8) := C1 4 _ rfl
  have a5 : w1.cell? ⟨g1, 5, none⟩ = some (.int .i64 0) := C1 5 _ rfl
  have a6 : w1.cell? ⟨g1, 6, none⟩ = some (.int .i64 0) := C1 6 _ rfl
  have a7 : w1.cell? ⟨g1, 7, none⟩ = some (.string ⟨#[]⟩) := C1 7 _ rfl
  have b0 := keep E1 b0
  have HE1 := Lib.hid (ext_trans HE.out E1)
  have HR1 := Lib.hid (HR.out.keep E1)
  have HT1 := Lib.hid (HT.out.ext E1)
  have EA : ∀ o o' : Obj, Ext w1 ((w1.alloc o).alloc o') := fun o o' => ext_alloc (ext_alloc (Below.refl _ _) _) _
  clear C1 E1
  go_upto_region 6 with (go_at_call 7; (refine (CB.out _ _ _ _ _ (HR1.out.keep (EA _ _)) (Nat.le_refl 1) (HT1.out.ext (EA _ _)) (by go_simp) (by go_simp)).mono ?_); rintro e w2 ⟨g2, c2, rfl, E2, C2⟩)
  have F2 := ext_trans (EA _ _) E2
  have a0 := keep F2 a0
  have a1 := keep F2 a1
  have a2 := keep F2 a2
  have a3 := keep F2 a3
  have a4 := keep F2 a4
  have a5 := keep F2 a5
  have a6 := keep F2 a6
  have a7 := keep F2 a7
  have d4 : w2.cell? ⟨g2, 4, none⟩ = some (.int .i64 9) := C2 4 _ rfl
  have d5 : w2.cell? ⟨g2, 5, none⟩ = some (.int .i64 0) := C2 5 _ rfl
  have d6 : w2.cell? ⟨g2, 6, none⟩ = some (.int .i64 0) := C2 6 _ rfl
  have d7 : w2.cell? ⟨g2, 7, none⟩ = some (.string ⟨#[112]⟩) := C2 7 _ rfl
  have HE2 := Lib.hid (ext_trans HE1.out F2)
  clear C2 E2 F2 EA b0
  go_wp2_with (go_at_call 9; (with_reducible refine (c_num30 _ _).mono ?_); rintro e w5 ⟨rfl, rfl⟩)
  go_returns
  exact ⟨rfl, HE2.out⟩
end Go.Proofs.YtlalgaioiapjmaaGreatDoor
namespace Go.Proofs.YtlalgaioiapjmaaGreatDoor
open Go.ChangeShapes Go.WideShapes Go.ChangeAt Go.RowKit
open K (Rule Finding)
/-- How many findings, and which texts, there are. -/
noncomputable def lenF (rs : List Rule) (given wanted : List ByteArray) : Nat := if strataE rs = 0 then (lintF rs given wanted).length else 0
noncomputable def txtF (rs : List Rule) (given : List ByteArray) : List ByteArray := if strataE rs = 0 then liveL rs given else []
def LoP (er : Int) (la : Nat) (W : World) (e : Ending) (w' : World) : Prop := ∃ a c F, F.length = la ∧ e = .returned (.tuple #[.slice a la c, .int .i64 er]) ∧ Ext W w' ∧ w'.ownsRow W.heap.size 37 4 (.slice a la c) la (flatF F)
def VoP (er : Int) (lc : Nat) (ss : List ByteArray) (W : World) (e : Ending) (w' : World) : Prop := ∃ a c, e = .returned (.tuple #[.slice a lc c, .int .i64 er]) ∧ Ext W w' ∧ w'.ownsRow W.heap.size 9 1 (.slice a lc c) lc (ss.map Value.string)
theorem lo_of {rs : List Rule} {given wanted : List ByteArray} {W w' : World} {e : Ending} (h : LintOut rs given wanted W e w') : LoP (strataE rs) (lenF rs given wanted) W e w' := by
  obtain ⟨a, c, F, h1, h2, h3, h4⟩ := h
  have hl : F.length = lenF rs given wanted := by
    unfold lenF
    split at h4
    · rename_i hz
      rw [if_pos hz]
      exact h4.1.length_eq
    · rename_i hz
      rw [if_neg hz, h4]
      rfl
  rw [hl] at h1 h3
  exact ⟨a, c, F, hl, h1, h2, h3⟩
theorem vo_of {rs : List Rule} {given : List ByteArray} {W w' : World} {e : Ending} (h : LiveOut rs given W e w') : VoP (strataE rs) (txtF rs given).length (txtF rs given) W e w' := by
  obtain ⟨v, h1, h2, h3⟩ := h
  have e1 : (if strataE rs = 0 then (liveL rs given).length else 0) = (txtF rs given).length := by unfold txtF; split <;> rfl
  have e2 : (if strataE rs = 0 then (liveL rs given).map Value.string else []) = (txtF rs given).map Value.string := by unfold txtF; split <;> rfl
  rw [e1, e2] at h3
  obtain ⟨a, c, rfl, _⟩ := own_form h3
  exact ⟨a, c, h1, h2, h3⟩
theorem lenF_few {rs : List Rule} (given wanted : List ByteArray) : lenF rs given wanted ≤ 46080000 := by
  unfold lenF
  split
  · rename_i hz
    have hc := strata_check hz
    obtain ⟨h1, h2⟩ := checkP_go hc
    obtain ⟨_, _, _, h3⟩ := chk_names rs [] h2 (by simp)
    have := collG_len (ruleF rs given wanted) 45000 rs 0 fun k r hr => by
      have hk := (List.getElem?_eq_some_iff.1 hr).1
      have hm := (h3 r (List.mem_of_getElem? hr)).1
      have := (ruleF_few rs given wanted (0 + k) r hm (by omega) (by omega)).2 9
      rw [List.take_of_length_le (by simp [looksT])] at this
      exact this
    unfold lintF
    omega
  · omega
theorem txtF_few {rs : List Rule} (given : List ByteArray) : (txtF rs given).length ≤ 512 := by
  unfold txtF
  split
  · rename_i hz
    have hc := strata_check hz
    have h1 := names_few hc
    have h2 := namesQ_len rs
    have h3 : (liveL rs given).length ≤ (namesQ rs).length := by
      unfold liveL
      exact List.length_filter_le _ _
    omega
  · simp
theorem flatF_one (F : List Finding) : ∀ u ∈ flatF F, u.oneCell' = true := fun u hu => by
  obtain ⟨x, _, hx⟩ := List.mem_flatMap.1 hu
  simp only [valsF, List.mem_cons, List.not_mem_nil, or_false] at hx
  rcases hx with rfl | rfl | rfl | rfl <;> rfl
theorem flatF_get : ∀ (F : List Finding) (i j : Nat) (x : Finding), F[i]? = some x → j < 4 → (flatF F)[i * 4 + j]? = (valsF x)[j]?
  | [], i, j, x, h, _ => by simp at h
  | y :: F, 0, j, x, h, hj => by
    cases h
    show (valsF y ++ flatF F)[0 * 4 + j]? = _
    rw [List.getElem?_append_left (by simp [valsF]; omega)]
    simp
  | y :: F, i + 1, j, x, h, hj => by
    show (valsF y ++ flatF F)[(i + 1) * 4 + j]? = _
    rw [List.getElem?_append_right (by simp [valsF]; omega), show (i + 1) * 4 + j - (valsF y).length = i * 4 + j by simp [valsF]; omega]
    exact flatF_get F i j x h hj
theorem wpList_copy_fnd {ops : Array Oper} {rest : List Oper} {o : Oper} {a : Act} {Q : Exit → Act → World → Prop} (W0 : World) (base : Nat) (aa : Option Addr) (m c : Nat) (F : List Finding) (hown : W0.ownsRow base 37 4 (.slice aa m c) m (flatF F)) (hm : m ≤ 2000000000) (hgd : o.guard = none) (so xo : Operand)
    (ho : o.op = .call { callee := .builtin .append, args := #[so, xo], argTypes := #[29, 29] }) (hs : a.eval so = .slice (some ⟨W0.heap.size, 0, none⟩) 0 0) (hx : a.eval xo = .slice aa m c)
    (h : ∀ a' c' w', w'.ownsRow W0.heap.size 37 4 (.slice a' m c') m (flatF F) → Ext W0 w' → wpList Tryz.prog ops Q rest (a.put o.dst (.slice a' m c')) w') :
    wpList Tryz.prog ops Q (o :: rest) a (W0.alloc (.cells #[] 37)) := by
  obtain ⟨n0, hn0, nz0, nz1, nz2⟩ := info_parts info_find
  have E0 : Ext W0 (W0.alloc (.cells #[] 37)) := ext_alloc (Below.refl _ _) _
  have hown0 : (W0.alloc (.cells #[] 37)).ownsRow W0.heap.size 37 4 (.slice (some ⟨W0.heap.size, 0, none⟩) 0 0) 0 [] := World.ownsRow_lit W0 #[] 0 (Nat.le_refl _) (by unfold maxLen; omega) rfl
  refine wpList_append_any hgd so xo 29 ho W0.heap.size 37 n0 (.agg #[.int .i64 0, .int .i64 0, .int .i64 0, .string ⟨#[]⟩]) 4 40 Tryz.underlying29 hn0 nz0 nz1 nz2 rfl (by decide) _ 0 [] hs hown0 aa m c (flatF F) hx (cap_of_own hown).2 (by have := hown.1; rw [this]) (fun ad e j u hu => keepA E0 (own_src hown ad e j u hu)) (flatF_one F) (by unfold maxLen; omega) (by omega) (size_alloc_le (Nat.le_refl _)) fun v' w' r1 r2 => ?_
  rw [Nat.zero_add, List.nil_append] at r1
  obtain ⟨a', c', rfl, _⟩ := own_form r1
  exact h a' c' w' r1 (ext_ownB E0 r2 (fun g e => by cases e; exact Nat.le_refl _))
theorem wpList_copy_str {ops : Array Oper} {rest : List Oper} {o : Oper} {a : Act} {Q : Exit → Act → World → Prop} (W0 : World) (base : Nat) (aa : Option Addr) (m c : Nat) (ss : List ByteArray) (hown : W0.ownsRow base 9 1 (.slice aa m c) m (ss.map Value.string)) (hm : m ≤ 2000000000) (hgd : o.guard = none) (so xo : Operand)
    (ho : o.op = .call { callee := .builtin .append, args := #[so, xo], argTypes := #[25, 25] }) (hs : a.eval so = .slice (some ⟨W0.heap.size, 0, none⟩) 0 0) (hx : a.eval xo = .slice aa m c)
    (h : ∀ a' c' w', w'.ownsRow W0.heap.size 9 1 (.slice a' m c') m (ss.map Value.string) → Ext W0 w' → wpList Tryz.prog ops Q rest (a.put o.dst (.slice a' m c')) w') :
    wpList Tryz.prog ops Q (o :: rest) a (W0.alloc (.cells #[] 9)) := by
  obtain ⟨n0, hn0, nz0, nz1, nz2⟩ := info_parts K.info_string
  have E0 : Ext W0 (W0.alloc (.cells #[] 9)) := ext_alloc (Below.refl _ _) _
  have hown0 : (W0.alloc (.cells #[] 9)).ownsRow W0.heap.size 9 1 (.slice (some ⟨W0.heap.size, 0, none⟩) 0 0) 0 [] := World.ownsRow_lit W0 #[] 0 (Nat.le_refl _) (by unfold maxLen; omega) rfl
  refine wpList_append_any hgd so xo 25 ho W0.heap.size 9 n0 (.string ⟨#[]⟩) 1 16 Tryz.underlying25 hn0 nz0 nz1 nz2 rfl (by decide) _ 0 [] hs hown0 aa m c (ss.map Value.string) hx (cap_of_own hown).2 (by have := hown.1; rw [this]) (fun ad e j u hu => keepA E0 (own_src hown ad e j u hu)) (fun u hu => by obtain ⟨x, _, rfl⟩ := List.mem_map.1 hu; rfl) (by unfold maxLen; omega) (by omega) (size_alloc_le (Nat.le_refl _)) fun v' w' r1 r2 => ?_
  rw [Nat.zero_add, List.nil_append] at r1
  obtain ⟨a', c', rfl, _⟩ := own_form r1
  exact h a' c' w' r1 (ext_ownB E0 r2 (fun g e => by cases e; exact Nat.le_refl _))
/-- A row of texts of one's own, read as texts. -/
theorem own_strsK {w : World} {base n c : Nat} {a : Option Addr} {ss : List ByteArray} (h : w.ownsRow base 9 1 (.slice a n c) n (ss.map Value.string)) (hn : n ≤ 8796093022208) : K.StrsAt w a n ss := by
  have hl : ss.length = n := by have := h.1; simpa using this
  refine ⟨hn, hl, fun i s hs => ?_⟩
  have hi := (List.getElem?_eq_some_iff.1 hs).1
  obtain ⟨g, c', e, _⟩ := own_formS h (by omega)
  injection e with e1 e2 e3
  subst e1
  have := h.cells (g := g) rfl i (.string s) (by rw [List.getElem?_map, hs]; rfl)
  rw [Addr.add_lit] at this
  exact ⟨g, 0, rfl, this⟩
theorem RowsS.cell {w0 w : World} {ls : List ORow} {i : Nat} {t : TypeId} {size g n cap : Nat} {xs : List Value} (h : RowsS w0 ls w) (hi : ls[i]? = some ⟨t, size, .slice (some ⟨g, 0, none⟩) n cap, n, xs⟩) {j : Nat} {u : Value} (hu : xs[j]? = some u) : w.cell? ⟨g, j, none⟩ = some u := by
  have := (h.at hi).cells (g := g) rfl j u hu
  rw [Addr.add_lit, Nat.zero_add] at this
  exact this
end Go.Proofs.YtlalgaioiapjmaaGreatDoor
