/- The rules that come in, opened into RuleV, and shut again. What LintOwn is handed, opened: a program into RulesAt, texts into StrsAt. -/
import Derived.Test.YtlalgaioiapjmaaGreatDoorG0
import Derived.Test.YtlalgaioiapjmaaGreatDoorG12
import Derived.SizedLaws
import Derived.Deep.Strs
import Derived.Deep.Slices
import Derived.Carry
namespace Go.Proofs.YtlalgaioiapjmaaGreatDoor.K
open Go.ChangeShapes Go.WideShapes Go.ChangeAt Go.RowKit Go.Deep
theorem cells_term : Tryz.prog.cellsOf 42 = 2 := by kernel_rfl
theorem cells_int : Tryz.prog.cellsOf 3 = 1 := by kernel_rfl
theorem cells_str : Tryz.prog.cellsOf 9 = 1 := by kernel_rfl
theorem cells_atom : Tryz.prog.cellsOf 45 = 2 := by kernel_rfl
theorem cells_list : Tryz.prog.cellsOf 43 = 1 := by kernel_rfl
theorem cells_lit : Tryz.prog.cellsOf 47 = 8 := by kernel_rfl
theorem five_of {α : Type} {l : List α} (h : l.length = 5) : ∃ a b c d e, l = [a, b, c, d, e] := by
  match l, h with
  | [a, b, c, d, e], _ => exact ⟨a, b, c, d, e, rfl⟩
theorem cells_rule : Tryz.prog.cellsOf 50 = 3 := by kernel_rfl
theorem cells_lits : Tryz.prog.cellsOf 48 = 1 := by kernel_rfl
theorem two_of {α : Type} {l : List α} (h : l.length = 2) : ∃ a b, l = [a, b] := by
  match l, h with
  | [a, b], _ => exact ⟨a, b, rfl⟩
theorem three_of {α : Type} {l : List α} (h : l.length = 3) : ∃ a b c, l = [a, b, c] := by
  match l, h with
  | [a, b, c], _ => exact ⟨a, b, c, rfl⟩
theorem eight_of {α : Type} {l : List α} (h : l.length = 8) : ∃ a b c d e f g i, l = [a, b, c, d, e, f, g, i] := by
  match l, h with
  | [a, b, c, d, e, f, g, i], _ => exact ⟨a, b, c, d, e, f, g, i, rfl⟩
section
variable {H : Type} {enc : TypeId × Value → H}
theorem term_of {W : World} {base : Nat} {sp : Nat → Bool} {n : Nat} {cs : List Value} {x : DataW H × List MemPlace} (h : DataW.trod enc Tryz.prog W base sp true n 42 cs = some x) :
    ∃ (k : Int) (s : ByteArray), cs = [.int .i64 k, .string s] ∧ x = (.agg [.lit (.int .i64 k), .lit (.string s.data.toList)], []) ∧ (Go.Lit.int .i64 k).wf = true ∧ s.size ≤ maxLen := by
  obtain ⟨y0, y1, m, rfl, hl, u0, u1⟩ := trod_struct2 Tryz.underlying42 h
  rw [cells_term] at hl
  obtain ⟨c0, c1, rfl⟩ := two_of hl
  simp only [cells_int, cells_str, List.drop, List.take] at u0 u1
  obtain ⟨k, hc, rfl, hw⟩ := DataW.trod_int Tryz.underlying3 u0
  obtain ⟨t, ht, rfl, hs⟩ := DataW.trod_string Tryz.underlying9 u1
  cases hc
  cases ht
  exact ⟨k, t, rfl, rfl, hw, hs⟩
instance : Inhabited Term := ⟨⟨0, ⟨#[]⟩⟩⟩
instance : Inhabited Lit := ⟨⟨0, ⟨⟨#[]⟩, []⟩, 0, ⟨0, ⟨#[]⟩⟩, ⟨0, ⟨#[]⟩⟩⟩⟩
theorem spot_of {w : World} {a : Addr} {v : Value} (h : w.cell? a = some v) : a = ⟨a.block, a.off, none⟩ := by
  obtain ⟨b, o, s⟩ := a
  cases s with
  | none => rfl
  | some x =>
    unfold World.cell? at h
    split at h <;> simp at h
/-- The elements of a slice of sz cells each, one by one. -/
theorem elem_cells {w : World} {base : Nat} {a : Addr} {i sz : Nat} {cs : List Value} (hs : a = ⟨a.block, a.off, none⟩) (h : w.cells? base (a.add (i * sz)) sz = some cs) : ∀ j, j < sz → w.cell? ⟨a.block, a.off + i * sz + j, none⟩ = cs[j]? := by
  intro j hj
  obtain ⟨_, _, h3⟩ := World.cells?_some h
  have := h3 j hj
  rw [hs, Addr.add_lit, Addr.add_lit] at this
  exact this
theorem terms_of {W : World} {base : Nat} {n : Nat} {cs : List Value} {x : DataW H × List MemPlace} (h : DataW.trod enc Tryz.prog W base (fun _ => true) true n 43 cs = some x) (hw : ∀ k ∈ x.1.weights Tryz.prog 43, k ≤ reachBytes) :
    ∃ (a : Option Addr) (len cap : Nat) (ts : List Term), cs = [.slice a len cap] ∧ TermsAt W a len ts ∧ capOk a len cap := by
  rcases open_slice Tryz.underlying43 h with ⟨rfl, rfl⟩ | ⟨a, len, cap, m, n', D, Pl, rfl, hb, hl, hm, hmm, rfl, hx⟩
  · exact ⟨none, 0, 0, [], rfl, ⟨Nat.zero_le _, rfl, by simp⟩, Nat.le_refl _, fun _ => ⟨rfl, rfl⟩⟩
  · simp only [if_true] at hmm
    subst hmm
    rw [cells_term] at hx
    obtain ⟨T, hT⟩ := choose_lt (α := Term) (n := len) (p := fun i t => W.cells? base (a.add (i * 2)) 2 = some [.int .i64 t.kind, .string t.text] ∧ t.text.size ≤ maxLen) (fun i hi => by
      obtain ⟨cs', h1, h2⟩ := hx i (by omega)
      obtain ⟨k, s, rfl, _, _, hs⟩ := term_of h2
      exact ⟨⟨k, s⟩, h1, hs⟩)
    refine ⟨some a, len, m, (List.range len).map T, rfl, ⟨?_, by simp, fun i t ht => ?_⟩, hl, by intro h; cases h⟩
    · have := hw _ (by rw [DataW.weights, Tryz.underlying43]; exact List.mem_cons_self)
      simp only [List.length_map, List.length_range] at this
      rw [show Tryz.prog.bytesOf 42 = 24 by kernel_rfl] at this
      unfold reachBytes at this
      omega
    · obtain ⟨hi, rfl⟩ : i < len ∧ T i = t := by
        have hi := (List.getElem?_eq_some_iff.1 ht).1
        simp at hi
        refine ⟨hi, ?_⟩
        simpa [hi] using ht
      have hs : a = ⟨a.block, a.off, none⟩ := by
        have h0 := (World.cells?_some (hT 0 (by omega)).1).2.2 0 (by decide)
        rw [Nat.zero_mul] at h0
        exact spot_of h0
      obtain ⟨h1, h2⟩ := hT i hi
      have hc := elem_cells hs h1
      exact ⟨a.block, a.off, congrArg some hs, hc 0 (by decide), hc 1 (by decide), h2⟩
theorem atom_of {W : World} {base : Nat} {n : Nat} {cs : List Value} {x : DataW H × List MemPlace} (h : DataW.trod enc Tryz.prog W base (fun _ => true) true n 45 cs = some x) (hw : ∀ k ∈ x.1.weights Tryz.prog 45, k ≤ reachBytes) :
    ∃ (p : ByteArray) (a : Option Addr) (len cap : Nat) (ts : List Term), cs = [.string p, .slice a len cap] ∧ TermsAt W a len ts ∧ capOk a len cap ∧ p.size ≤ maxLen := by
  obtain ⟨y0, y1, m, rfl, hl, u0, u1⟩ := trod_struct2 Tryz.underlying45 h
  rw [cells_atom] at hl
  obtain ⟨c0, c1, rfl⟩ := two_of hl
  simp only [cells_list, cells_str, List.drop, List.take] at u0 u1
  obtain ⟨p, hc, rfl, hs⟩ := DataW.trod_string Tryz.underlying9 u0
  obtain ⟨a, len, cap, ts, hc1, ht, hcap⟩ := terms_of u1 (fun k hk => hw k (by
    rw [DataW.weights, Tryz.underlying45]
    simp [DataW.weightsEach, hk]))
  cases hc
  cases hc1
  exact ⟨p, a, len, cap, ts, rfl, ht, hcap, hs⟩
theorem lit_of {W : World} {base : Nat} {n : Nat} {cs : List Value} {x : DataW H × List MemPlace} (h : DataW.trod enc Tryz.prog W base (fun _ => true) true n 47 cs = some x) (hw : ∀ k ∈ x.1.weights Tryz.prog 47, k ≤ reachBytes) :
    ∃ (l : Lit) (a : Option Addr) (len cap : Nat), cs = [.int .i64 l.kind, .string l.atom.pred, .slice a len cap, .int .i64 l.op, .int .i64 l.left.kind, .string l.left.text, .int .i64 l.right.kind, .string l.right.text] ∧ TermsAt W a len l.atom.terms ∧ capOk a len cap ∧ l.atom.pred.size ≤ maxLen ∧ l.left.text.size ≤ maxLen ∧ l.right.text.size ≤ maxLen := by
  obtain ⟨xs, m, _, rfl, hl, hlen, hf⟩ := DataW.trod_struct Tryz.underlying47 h
  rw [cells_lit] at hl
  obtain ⟨c0, c1, c2, c3, c4, c5, c6, c7, rfl⟩ := eight_of hl
  obtain ⟨y0, y1, y2, y3, y4, rfl⟩ := five_of hlen
  have u0 : DataW.trod enc Tryz.prog W base (fun _ => true) true m 3 [c0] = some y0 := by simpa [cells_int] using hf 0 _ rfl
  have u1 : DataW.trod enc Tryz.prog W base (fun _ => true) true m 45 [c1, c2] = some y1 := by simpa [cells_atom] using hf 1 _ rfl
  have u2 : DataW.trod enc Tryz.prog W base (fun _ => true) true m 3 [c3] = some y2 := by simpa [cells_int] using hf 2 _ rfl
  have u3 : DataW.trod enc Tryz.prog W base (fun _ => true) true m 42 [c4, c5] = some y3 := by simpa [cells_term] using hf 3 _ rfl
  have u4 : DataW.trod enc Tryz.prog W base (fun _ => true) true m 42 [c6, c7] = some y4 := by simpa [cells_term] using hf 4 _ rfl
  obtain ⟨k, hc0, rfl, _⟩ := DataW.trod_int Tryz.underlying3 u0
  obtain ⟨o, hc3, rfl, _⟩ := DataW.trod_int Tryz.underlying3 u2
  obtain ⟨p, a, len, cap, ts, hc1, ht, hcap, hp⟩ := atom_of u1 (fun k hk => hw k (by
    rw [DataW.weights, Tryz.underlying47]
    simp [DataW.weightsEach, hk]))
  obtain ⟨lk, lt, hcl, _, _, hlt⟩ := term_of u3
  obtain ⟨rk, rt, hcr, _, _, hrt⟩ := term_of u4
  cases hc0
  cases hc1
  cases hc3
  cases hcl
  cases hcr
  exact ⟨⟨k, ⟨p, ts⟩, o, ⟨lk, lt⟩, ⟨rk, rt⟩⟩, a, len, cap, rfl, ht, hcap, hp, hlt, hrt⟩
theorem weights_mem {P : Program} {e : TypeId} {l : List (DataW H)} {d : DataW H} (h : d ∈ l) : ∀ n ∈ d.weights P e, n ∈ DataW.weightsAll P e l := by
  induction l with
  | nil => cases h
  | cons x l ih =>
    intro n hn
    rw [DataW.weightsAll, List.mem_append]
    rcases List.mem_cons.1 h with rfl | h
    · exact .inl hn
    · exact .inr (ih h n hn)
set_option maxRecDepth 20000 in
theorem lits_of {W : World} {base : Nat} {n : Nat} {cs : List Value} {x : DataW H × List MemPlace} (h : DataW.trod enc Tryz.prog W base (fun _ => true) true n 48 cs = some x) (hw : ∀ k ∈ x.1.weights Tryz.prog 48, k ≤ reachBytes) :
    ∃ (a : Option Addr) (len cap : Nat) (ls : List Lit), cs = [.slice a len cap] ∧ LitsAt W a len ls ∧ capOk a len cap := by
  rcases open_slice Tryz.underlying48 h with ⟨rfl, rfl⟩ | ⟨a, len, cap, m, n', D, Pl, rfl, hb, hl, hm, hmm, rfl, hx⟩
  · exact ⟨none, 0, 0, [], rfl, ⟨Nat.zero_le _, rfl, by simp⟩, Nat.le_refl _, fun _ => ⟨rfl, rfl⟩⟩
  · simp only [if_true] at hmm
    subst hmm
    rw [cells_lit] at hx
    rw [DataW.weights, Tryz.underlying48] at hw
    have hD : ∀ i, i < len → ∀ k ∈ (D i).weights Tryz.prog 47, k ≤ reachBytes := fun i hi k hk => hw k (List.mem_cons_of_mem _ (List.mem_append.2 (.inl (weights_mem (List.mem_map.2 ⟨i, List.mem_range.2 hi, rfl⟩) k hk))))
    obtain ⟨T, hT⟩ := choose_lt (α := Lit) (n := len) (p := fun i l => ∃ (b : Option Addr) (ln cp : Nat), W.cells? base (a.add (i * 8)) 8 = some [.int .i64 l.kind, .string l.atom.pred, .slice b ln cp, .int .i64 l.op, .int .i64 l.left.kind, .string l.left.text, .int .i64 l.right.kind, .string l.right.text] ∧ TermsAt W b ln l.atom.terms ∧ capOk b ln cp ∧ l.atom.pred.size ≤ maxLen ∧ l.left.text.size ≤ maxLen ∧ l.right.text.size ≤ maxLen) (fun i hi => by
      obtain ⟨cs', h1, h2⟩ := hx i (by omega)
      obtain ⟨l, b, ln, cp, rfl, h3⟩ := lit_of h2 (hD i hi)
      exact ⟨l, b, ln, cp, h1, h3⟩)
    refine ⟨some a, len, m, (List.range len).map T, rfl, ⟨?_, by simp, fun i t ht => ?_⟩, hl, by intro h; cases h⟩
    · have := hw _ List.mem_cons_self
      simp only [List.length_map, List.length_range] at this
      rw [show Tryz.prog.bytesOf 47 = 104 by kernel_rfl] at this
      unfold reachBytes at this
      omega
    · obtain ⟨hi, rfl⟩ : i < len ∧ T i = t := by
        have hi := (List.getElem?_eq_some_iff.1 ht).1
        simp at hi
        refine ⟨hi, ?_⟩
        simpa [hi] using ht
      have hs : a = ⟨a.block, a.off, none⟩ := by
        obtain ⟨_, _, _, h00, _⟩ := hT 0 (by omega)
        have h0 := (World.cells?_some h00).2.2 0 (by decide)
        rw [Nat.zero_mul] at h0
        exact spot_of h0
      obtain ⟨b, ln, cp, h1, h2⟩ := hT i hi
      have hc := elem_cells hs h1
      exact ⟨a.block, a.off, congrArg some hs, b, ln, cp, hc 0 (by decide), hc 1 (by decide), hc 2 (by decide), hc 3 (by decide), hc 4 (by decide), hc 5 (by decide), hc 6 (by decide), hc 7 (by decide), h2⟩
set_option maxRecDepth 20000 in
theorem rule_of {W : World} {base : Nat} {n : Nat} {cs : List Value} {x : DataW H × List MemPlace} (h : DataW.trod enc Tryz.prog W base (fun _ => true) true n 50 cs = some x) (hw : ∀ k ∈ x.1.weights Tryz.prog 50, k ≤ reachBytes) :
    ∃ (r : Rule) (ah : Option Addr) (nh ch : Nat) (ab : Option Addr) (nb cb : Nat), cs = [.string r.head.pred, .slice ah nh ch, .slice ab nb cb] ∧ RuleV W r ah nh ch ab nb cb := by
  obtain ⟨y0, y1, m, rfl, hl, u0, u1⟩ := trod_struct2 Tryz.underlying50 h
  rw [cells_rule] at hl
  obtain ⟨c0, c1, c2, rfl⟩ := three_of hl
  simp only [cells_atom, cells_lits, List.drop, List.take] at u0 u1
  obtain ⟨p, a, len, cap, ts, hc, ht, hcap, hp⟩ := atom_of u0 (fun k hk => hw k (by
    rw [DataW.weights, Tryz.underlying50]
    simp [DataW.weightsEach, hk]))
  obtain ⟨a2, len2, cap2, ls, hc2, hls, hcap2⟩ := lits_of u1 (fun k hk => hw k (by
    rw [DataW.weights, Tryz.underlying50]
    simp [DataW.weightsEach, hk]))
  cases hc
  cases hc2
  exact ⟨⟨⟨p, ts⟩, ls⟩, a, len, cap, a2, len2, cap2, rfl, hp, ht, hls, hcap, hcap2⟩
theorem post_of_ext {P : Program} {f : Func} {s : ChangeSpec} {apart fresh handsOn again : Bool} {W W' : World} {args : Array Value} {v : Value} {ds gs : List (DataW H)} {before pa pv : List MemPlace}
    (hW : DataW.Whole enc P f.params.toList s.vars apart W args.toList ds gs before) (hb : Ext W W')
    (hres : ∀ (b : Nat) (sp : Nat → Bool) (hd : Bool), DataW.TrodAll enc P W' b sp hd f.resultTypes.toList (v.resultList f.resultTypes.size) (s.fn H (ds ++ gs)).results [])
    (hargs : ∀ sp : Nat → Bool, (∀ p ∈ before, sp p.block = true) → DataW.TrodAll enc P W' 0 sp true f.params.toList args.toList (s.fn H (ds ++ gs)).args pa)
    (hvars : ∀ sp : Nat → Bool, (∀ p ∈ before, sp p.block = true) → DataW.TrodVars enc P W' sp s.vars (s.fn H (ds ++ gs)).vars pv)
    (hps : before = pa ++ pv)
    (hok : ∀ (j : Nat) (t : TypeId) (r : Value), f.resultTypes[j]? = some t → (v.resultList f.resultTypes.size)[j]? = some r → Value.okWide P W' .any 0 t r) :
    s.post enc P f apart fresh handsOn again W args v W' := by
  have hlt : ∀ p ∈ before, p.block < W.heap.size := fun p hp => by simpa using hW.lt p hp
  have hold : ∀ p ∈ before, (fun b => decide (b < W.heap.size)) p.block = true := fun p hp => by simpa using hlt p hp
  refine ⟨ds, gs, before, [], pa, pv, hW, hres _ _ _, hargs _ hold, hvars _ hold, ?_, fun _ => ?_⟩
  · exact hb.frame _
  · obtain ⟨_, _, _, _, _, hz, hn⟩ := hW
    refine ⟨hok, _, _, ([] ++ pa) ++ pv, ⟨[] ++ pa, pv, trodAll_append (hargs _ (fun _ _ => rfl)) (hres _ _ _), hvars _ (fun _ _ => rfl), rfl, ?_, ?_⟩, ?_⟩
    · intro b off hp
      have hp' : MemPlace.cell b off ∈ before := by rw [hps]; simpa using hp
      rw [hb.frozen (p := ⟨b, off, none⟩) (hlt _ hp')]
      exact hz b off hp'
    · intro ha
      have := hn ha
      rw [hps] at this
      simpa using this
    · intro p hp _
      rw [hps]
      simpa using hp
end
end Go.Proofs.YtlalgaioiapjmaaGreatDoor.K
namespace Go.Proofs.YtlalgaioiapjmaaGreatDoor
open Go.ChangeShapes Go.WideShapes Go.ChangeAt Go.RowKit Go.Deep
open K (Rule RuleV cells_str spot_of elem_cells weights_mem rule_of cells_rule)
theorem cells_rules : Tryz.prog.cellsOf 22 = 1 := by kernel_rfl
theorem one_of {α : Type} {l : List α} (h : l.length = 1) : ∃ a, l = [a] := by
  match l, h with
  | [a], _ => exact ⟨a, rfl⟩
instance : Inhabited Rule := ⟨⟨⟨⟨#[]⟩, []⟩, []⟩⟩
section
variable {H : Type} {enc : TypeId × Value → H}
set_option maxRecDepth 20000 in
theorem strs_of {W : World} {base : Nat} {n : Nat} {cs : List Value} {x : DataW H × List MemPlace} (h : DataW.trod enc Tryz.prog W base (fun _ => true) true n 25 cs = some x) (hw : ∀ k ∈ x.1.weights Tryz.prog 25, k ≤ reachBytes) :
    ∃ (a : Option Addr) (len cap : Nat) (ts : List ByteArray), cs = [.slice a len cap] ∧ K.StrsAt W a len ts ∧ capOk a len cap ∧ len ≤ 8796093021952 ∧ ∀ s ∈ ts, okS s := by
  rcases open_slice Tryz.underlying25 h with ⟨rfl, rfl⟩ | ⟨a, len, cap, m, n', D, Pl, rfl, hb, hl, hm, hmm, rfl, hx⟩
  · exact ⟨none, 0, 0, [], rfl, ⟨Nat.zero_le _, rfl, by simp⟩, ⟨Nat.le_refl _, fun _ => ⟨rfl, rfl⟩⟩, Nat.zero_le _, by simp⟩
  · simp only [if_true] at hmm
    subst hmm
    rw [cells_str] at hx
    obtain ⟨T, hT⟩ := choose_lt (α := ByteArray) (n := len) (p := fun i t => W.cells? base (a.add (i * 1)) 1 = some [.string t] ∧ t.size ≤ maxLen) (fun i hi => by
      obtain ⟨cs', h1, h2⟩ := hx i (by omega)
      obtain ⟨t, rfl, _, hs⟩ := DataW.trod_string Tryz.underlying9 h2
      exact ⟨t, h1, hs⟩)
    have hlen : len ≤ 8796093021952 := by
      have := hw _ (by rw [DataW.weights, Tryz.underlying25]; exact List.mem_cons_self)
      simp only [List.length_map, List.length_range] at this
      rw [show Tryz.prog.bytesOf 9 = 16 by kernel_rfl] at this
      unfold reachBytes at this
      omega
    refine ⟨some a, len, m, (List.range len).map T, rfl, ⟨(by omega), by simp, fun i t ht => ?_⟩, ⟨hl, (by intro h; cases h)⟩, hlen, fun s hs => ?_⟩
    · obtain ⟨hi, rfl⟩ : i < len ∧ T i = t := by
        have hi := (List.getElem?_eq_some_iff.1 ht).1
        simp at hi
        refine ⟨hi, ?_⟩
        simpa [hi] using ht
      have hs : a = ⟨a.block, a.off, none⟩ := by
        have h0 := (World.cells?_some (hT 0 (by omega)).1).2.2 0 (by decide)
        rw [Nat.zero_mul] at h0
        exact spot_of h0
      have hc := elem_cells hs (hT i hi).1 0 (by decide)
      exact ⟨a.block, a.off, congrArg some hs, by simpa using hc⟩
    · obtain ⟨i, hi, rfl⟩ := List.mem_map.1 hs
      exact (hT i (List.mem_range.1 hi)).2
set_option maxRecDepth 20000 in
theorem rules_of {W : World} {base : Nat} {n : Nat} {cs : List Value} {x : DataW H × List MemPlace} (h : DataW.trod enc Tryz.prog W base (fun _ => true) true n 22 cs = some x) (hw : ∀ k ∈ x.1.weights Tryz.prog 22, k ≤ reachBytes) :
    ∃ (a : Option Addr) (len cap : Nat) (rs : List Rule), cs = [.slice a len cap] ∧ RulesAt W a len rs ∧ capOk a len cap ∧ len ≤ 2199023255488 := by
  rcases open_slice Tryz.underlying22 h with ⟨rfl, rfl⟩ | ⟨a, len, cap, m, n', D, Pl, rfl, hb, hl, hm, hmm, rfl, hx⟩
  · exact ⟨none, 0, 0, [], rfl, ⟨Nat.zero_le _, rfl, by simp⟩, ⟨Nat.le_refl _, fun _ => ⟨rfl, rfl⟩⟩, Nat.zero_le _⟩
  · simp only [if_true] at hmm
    subst hmm
    rw [cells_rule] at hx
    rw [DataW.weights, Tryz.underlying22] at hw
    have hD : ∀ i, i < len → ∀ k ∈ (D i).weights Tryz.prog 50, k ≤ reachBytes := fun i hi k hk => hw k (List.mem_cons_of_mem _ (List.mem_append.2 (.inl (weights_mem (List.mem_map.2 ⟨i, List.mem_range.2 hi, rfl⟩) k hk))))
    obtain ⟨T, hT⟩ := choose_lt (α := Rule) (n := len) (p := fun i r => ∃ (ah : Option Addr) (nh ch : Nat) (ab : Option Addr) (nb cb : Nat), W.cells? base (a.add (i * 3)) 3 = some [.string r.head.pred, .slice ah nh ch, .slice ab nb cb] ∧ RuleV W r ah nh ch ab nb cb) (fun i hi => by
      obtain ⟨cs', h1, h2⟩ := hx i (by omega)
      obtain ⟨r, ah, nh, ch, ab, nb, cb, rfl, h3⟩ := rule_of h2 (hD i hi)
      exact ⟨r, ah, nh, ch, ab, nb, cb, h1, h3⟩)
    have hlen : len ≤ 2199023255488 := by
      have := hw _ List.mem_cons_self
      simp only [List.length_map, List.length_range] at this
      rw [show Tryz.prog.bytesOf 50 = 64 by kernel_rfl] at this
      unfold reachBytes at this
      omega
    refine ⟨some a, len, m, (List.range len).map T, rfl, ⟨by omega, by simp, fun i t ht => ?_⟩, ⟨hl, by intro h; cases h⟩, hlen⟩
    obtain ⟨hi, rfl⟩ : i < len ∧ T i = t := by
      have hi := (List.getElem?_eq_some_iff.1 ht).1
      simp at hi
      refine ⟨hi, ?_⟩
      simpa [hi] using ht
    have hs : a = ⟨a.block, a.off, none⟩ := by
      obtain ⟨_, _, _, _, _, _, h00, _⟩ := hT 0 (by omega)
      have h0 := (World.cells?_some h00).2.2 0 (by decide)
      rw [Nat.zero_mul] at h0
      exact spot_of h0
    obtain ⟨ah, nh, ch, ab, nb, cb, h1, h2⟩ := hT i hi
    have hc := elem_cells hs h1
    exact ⟨a.block, a.off, congrArg some hs, ah, nh, ch, ab, nb, cb, hc 0 (by decide), hc 1 (by decide), hc 2 (by decide), h2⟩
theorem prog_of {W : World} {base : Nat} {n : Nat} {cs : List Value} {x : DataW H × List MemPlace} (h : DataW.trod enc Tryz.prog W base (fun _ => true) true n 24 cs = some x) (hw : ∀ k ∈ x.1.weights Tryz.prog 24, k ≤ reachBytes) :
    ∃ (a : Option Addr) (len cap : Nat) (rs : List Rule), cs = [.slice a len cap] ∧ RulesAt W a len rs ∧ capOk a len cap ∧ len ≤ 2199023255488 := by
  obtain ⟨xs, m, _, rfl, hl, hlen, hf⟩ := DataW.trod_struct Tryz.underlying24 h
  rw [show Tryz.prog.cellsOf 24 = 1 by kernel_rfl] at hl
  obtain ⟨c0, rfl⟩ := one_of hl
  obtain ⟨y0, rfl⟩ := one_of hlen
  have u0 : DataW.trod enc Tryz.prog W base (fun _ => true) true m 22 [c0] = some y0 := by simpa [cells_rules] using hf 0 _ rfl
  exact rules_of u0 (fun k hk => hw k (by
    rw [DataW.weights, Tryz.underlying24]
    simp [DataW.weightsEach, hk]))
set_option maxRecDepth 100000 in
theorem open_prog {W : World} {base : Nat} {v : Value} {d : DataW H} {p : List MemPlace} (hval : Value.okWide Tryz.prog W .any base 24 v) (h : DataW.Trod enc Tryz.prog W 0 (fun _ => true) true 24 v d p) (hw : ∀ k ∈ d.weights Tryz.prog 24, k ≤ reachBytes) :
    ∃ (rs : List Rule) (a : Option Addr) (n cap : Nat), v = .agg #[.slice a n cap] ∧ RulesAt W a n rs ∧ capOk a n cap ∧ n ≤ 2199023255488 := by
  unfold Value.okWide at hval
  rw [Tryz.underlying24] at hval
  obtain ⟨cs, rfl, _⟩ := hval
  obtain ⟨n, hn⟩ := h
  obtain ⟨a, len, cap, rs, hc, hr, hcap, hle⟩ := prog_of hn hw
  refine ⟨rs, a, len, cap, ?_, hr, hcap, hle⟩
  have e : cs.toList = [.slice a len cap] := hc
  obtain ⟨l⟩ := cs
  cases e
  rfl
set_option maxRecDepth 100000 in
theorem open_strs {W : World} {base : Nat} {v : Value} {d : DataW H} {p : List MemPlace} (hval : Value.okWide Tryz.prog W .any base 25 v) (h : DataW.Trod enc Tryz.prog W 0 (fun _ => true) true 25 v d p) (hw : ∀ k ∈ d.weights Tryz.prog 25, k ≤ reachBytes) :
    ∃ (a : Option Addr) (n cap : Nat) (xs : List ByteArray), v = .slice a n cap ∧ K.StrsAt W a n xs ∧ capOk a n cap ∧ n ≤ 8796093021952 ∧ ∀ s ∈ xs, okS s := by
  obtain ⟨n, hn⟩ := h
  obtain ⟨a, len, cap, rfl⟩ := okWide_slice Tryz.underlying25 hval
  obtain ⟨a', len', cap', xs, hc, hr⟩ := strs_of hn hw
  cases (hc : [Value.slice a len cap] = _)
  exact ⟨_, _, _, xs, rfl, hr⟩
end
end Go.Proofs.YtlalgaioiapjmaaGreatDoor
