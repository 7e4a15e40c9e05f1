/- The cases that come in, opened into CaseAt. -/
import Derived.Test.YthjpfplebbnbpaaGreatCas1
import Derived.SizedLaws
import Derived.Deep.Strs
import Derived.Deep.Slices
namespace Go.Proofs.YthjpfplebbnbpaaGreat
open Go.ChangeShapes Go.WideShapes Go.ChangeAt Go.RowKit Go.Deep
theorem cells_int : Tryz.prog.cellsOf 3 = 1 := by kernel_rfl
theorem cells_str : Tryz.prog.cellsOf 9 = 1 := by kernel_rfl
theorem cells_strs : Tryz.prog.cellsOf 46 = 1 := by kernel_rfl
theorem cells_rows : Tryz.prog.cellsOf 22 = 1 := by kernel_rfl
theorem cells_ints : Tryz.prog.cellsOf 23 = 1 := by kernel_rfl
theorem cells_case : Tryz.prog.cellsOf 25 = 3 := by kernel_rfl
theorem three_of {α : Type} {l : List α} (h : l.length = 3) : ∃ a b c, l = [a, b, c] := by
  match l, h with
  | [a, b, c], _ => exact ⟨a, b, c, rfl⟩
section
variable {H : Type} {enc : TypeId × Value → H}
theorem spot_of {w : World} {a : Addr} {v : Value} (h : w.cell? a = some v) : a = ⟨a.block, a.off, none⟩ := by
  obtain ⟨b, o, s⟩ := a
  cases s with
  | none => rfl
  | some x =>
    unfold World.cell? at h
    split at h <;> simp at h
/-- The elements of a slice of sz cells each, one by one. -/
theorem elem_cells {w : World} {base : Nat} {a : Addr} {i sz : Nat} {cs : List Value} (hs : a = ⟨a.block, a.off, none⟩) (h : w.cells? base (a.add (i * sz)) sz = some cs) : ∀ j, j < sz → w.cell? ⟨a.block, a.off + i * sz + j, none⟩ = cs[j]? := by
  intro j hj
  obtain ⟨_, _, h3⟩ := World.cells?_some h
  have := h3 j hj
  rw [hs, Addr.add_lit, Addr.add_lit] at this
  exact this
theorem weights_mem {P : Program} {e : TypeId} {l : List (DataW H)} {d : DataW H} (h : d ∈ l) : ∀ n ∈ d.weights P e, n ∈ DataW.weightsAll P e l := by
  induction l with
  | nil => cases h
  | cons x l ih =>
    intro n hn
    rw [DataW.weightsAll, List.mem_append]
    rcases List.mem_cons.1 h with rfl | h
    · exact .inl hn
    · exact .inr (ih h n hn)
set_option maxRecDepth 20000 in
theorem strs_of {W : World} {base : Nat} {n : Nat} {cs : List Value} {x : DataW H × List MemPlace} (h : DataW.trod enc Tryz.prog W base (fun _ => true) true n 46 cs = some x) (hw : ∀ k ∈ x.1.weights Tryz.prog 46, k ≤ reachBytes) :
    ∃ (a : Option Addr) (len cap : Nat) (ts : List ByteArray), cs = [.slice a len cap] ∧ StrsAt W a len ts ∧ (a = none → len = 0 ∧ cap = 0) ∧ len ≤ 8796093022207 := by
  rcases open_slice Tryz.underlying46 h with ⟨rfl, rfl⟩ | ⟨a, len, cap, m, n', D, Pl, rfl, hb, hl, hm, hmm, rfl, hx⟩
  · exact ⟨none, 0, 0, [], rfl, ⟨Nat.zero_le _, rfl, by simp⟩, fun _ => ⟨rfl, rfl⟩, Nat.zero_le _⟩
  · simp only [if_true] at hmm
    subst hmm
    rw [cells_str] at hx
    obtain ⟨T, hT⟩ := choose_lt (α := ByteArray) (n := len) (p := fun i t => W.cells? base (a.add (i * 1)) 1 = some [.string t]) (fun i hi => by
      obtain ⟨cs', h1, h2⟩ := hx i (by omega)
      obtain ⟨t, rfl, _, hs⟩ := DataW.trod_string Tryz.underlying9 h2
      exact ⟨t, h1⟩)
    have hlen : len ≤ 8796093022207 := by
      have := hw _ (by rw [DataW.weights, Tryz.underlying46]; exact List.mem_cons_self)
      simp only [List.length_map, List.length_range] at this
      rw [show Tryz.prog.bytesOf 9 = 16 by kernel_rfl] at this
      unfold reachBytes at this
      omega
    refine ⟨some a, len, m, (List.range len).map T, rfl, ⟨(by unfold maxLen; omega), by simp, fun i t ht => ?_⟩, (by intro h; cases h), hlen⟩
    · obtain ⟨hi, rfl⟩ : i < len ∧ T i = t := by
        have hi := (List.getElem?_eq_some_iff.1 ht).1
        simp at hi
        refine ⟨hi, ?_⟩
        simpa [hi] using ht
      have hs : a = ⟨a.block, a.off, none⟩ := by
        have h0 := (World.cells?_some (hT 0 (by omega))).2.2 0 (by decide)
        rw [Nat.zero_mul] at h0
        exact spot_of h0
      have hc := elem_cells hs (hT i hi) 0 (by decide)
      exact ⟨a.block, a.off, congrArg some hs, hc⟩
set_option maxRecDepth 20000 in
theorem ints_of {W : World} {base : Nat} {n : Nat} {cs : List Value} {x : DataW H × List MemPlace} (h : DataW.trod enc Tryz.prog W base (fun _ => true) true n 23 cs = some x) (hw : ∀ k ∈ x.1.weights Tryz.prog 23, k ≤ reachBytes) :
    ∃ (a : Option Addr) (len cap : Nat) (ts : List Int), cs = [.slice a len cap] ∧ IntsAt W a len ts ∧ (a = none → len = 0 ∧ cap = 0) ∧ len ≤ 17592186043904 := by
  rcases open_slice Tryz.underlying23 h with ⟨rfl, rfl⟩ | ⟨a, len, cap, m, n', D, Pl, rfl, hb, hl, hm, hmm, rfl, hx⟩
  · exact ⟨none, 0, 0, [], rfl, ⟨Nat.zero_le _, rfl, by simp⟩, fun _ => ⟨rfl, rfl⟩, Nat.zero_le _⟩
  · simp only [if_true] at hmm
    subst hmm
    rw [cells_int] at hx
    obtain ⟨T, hT⟩ := choose_lt (α := Int) (n := len) (p := fun i t => W.cells? base (a.add (i * 1)) 1 = some [.int .i64 t]) (fun i hi => by
      obtain ⟨cs', h1, h2⟩ := hx i (by omega)
      obtain ⟨t, rfl, _, hs⟩ := DataW.trod_int Tryz.underlying3 h2
      exact ⟨t, h1⟩)
    have hlen : len ≤ 17592186043904 := by
      have := hw _ (by rw [DataW.weights, Tryz.underlying23]; exact List.mem_cons_self)
      simp only [List.length_map, List.length_range] at this
      rw [show Tryz.prog.bytesOf 3 = 8 by kernel_rfl] at this
      unfold reachBytes at this
      omega
    refine ⟨some a, len, m, (List.range len).map T, rfl, ⟨(by unfold maxLen; omega), by simp, fun i t ht => ?_⟩, (by intro h; cases h), hlen⟩
    obtain ⟨hi, rfl⟩ : i < len ∧ T i = t := by
      have hi := (List.getElem?_eq_some_iff.1 ht).1
      simp at hi
      refine ⟨hi, ?_⟩
      simpa [hi] using ht
    have hs : a = ⟨a.block, a.off, none⟩ := by
      have h0 := (World.cells?_some (hT 0 (by omega))).2.2 0 (by decide)
      rw [Nat.zero_mul] at h0
      exact spot_of h0
    have hc := elem_cells hs (hT i hi) 0 (by decide)
    exact ⟨a.block, a.off, congrArg some hs, hc⟩
set_option maxRecDepth 20000 in
theorem rows_of {W : World} {base : Nat} {n : Nat} {cs : List Value} {x : DataW H × List MemPlace} (h : DataW.trod enc Tryz.prog W base (fun _ => true) true n 22 cs = some x) (hw : ∀ k ∈ x.1.weights Tryz.prog 22, k ≤ reachBytes) :
    ∃ (a : Option Addr) (len cap : Nat) (rs : List (List ByteArray)), cs = [.slice a len cap] ∧ SliceAt rowC 1 W a len rs ∧ len ≤ maxLen ∧ (a = none → len = 0 ∧ cap = 0) := by
  rcases open_slice Tryz.underlying22 h with ⟨rfl, rfl⟩ | ⟨a, len, cap, m, n', D, Pl, rfl, hb, hl, hm, hmm, rfl, hx⟩
  · exact ⟨none, 0, 0, [], rfl, ⟨rfl, by simp⟩, Nat.zero_le _, fun _ => ⟨rfl, rfl⟩⟩
  · simp only [if_true] at hmm
    subst hmm
    rw [cells_strs] at hx
    rw [DataW.weights, Tryz.underlying22] at hw
    have hD : ∀ i, i < len → ∀ k ∈ (D i).weights Tryz.prog 46, k ≤ reachBytes := fun i hi k hk => hw k (List.mem_cons_of_mem _ (List.mem_append.2 (.inl (weights_mem (List.mem_map.2 ⟨i, List.mem_range.2 hi, rfl⟩) k hk))))
    obtain ⟨T, hT⟩ := choose_lt (α := List ByteArray) (n := len) (p := fun i r => ∃ (b : Option Addr) (ln cp : Nat), W.cells? base (a.add (i * 1)) 1 = some [.slice b ln cp] ∧ StrsAt W b ln r ∧ (b = none → ln = 0 ∧ cp = 0) ∧ ln ≤ 8796093022207) (fun i hi => by
      obtain ⟨cs', h1, h2⟩ := hx i (by omega)
      obtain ⟨b, ln, cp, r, rfl, h3, h4⟩ := strs_of h2 (hD i hi)
      exact ⟨r, b, ln, cp, h1, h3, h4⟩)
    refine ⟨some a, len, m, (List.range len).map T, rfl, ⟨by simp, fun i t ht => ?_⟩, ?_, by intro h; cases h⟩
    · obtain ⟨hi, rfl⟩ : i < len ∧ T i = t := by
        have hi := (List.getElem?_eq_some_iff.1 ht).1
        simp at hi
        refine ⟨hi, ?_⟩
        simpa [hi] using ht
      have hs : a = ⟨a.block, a.off, none⟩ := by
        obtain ⟨_, _, _, h00, _⟩ := hT 0 (by omega)
        have h0 := (World.cells?_some h00).2.2 0 (by decide)
        rw [Nat.zero_mul] at h0
        exact spot_of h0
      obtain ⟨b, ln, cp, h1, h2, h3⟩ := hT i hi
      have hc := elem_cells hs h1 0 (by decide)
      exact ⟨a.block, a.off, congrArg some hs, b, ln, cp, hc, h2, h3⟩
    · have := hw _ List.mem_cons_self
      simp only [List.length_map, List.length_range] at this
      rw [show Tryz.prog.bytesOf 46 = 24 by kernel_rfl] at this
      unfold reachBytes at this
      unfold maxLen
      omega
set_option maxRecDepth 20000 in
theorem case_of {W : World} {base : Nat} {n : Nat} {cs : List Value} {x : DataW H × List MemPlace} (h : DataW.trod enc Tryz.prog W base (fun _ => true) true n 25 cs = some x) (hw : ∀ k ∈ x.1.weights Tryz.prog 25, k ≤ reachBytes) :
    ∃ (c : CaseV) (rows : List (List ByteArray)) (os : List Int), cs = [.int .i64 c.ar, .slice c.ra c.rn c.rc, .slice c.oa c.on c.oc] ∧ CaseAt W c rows os := by
  obtain ⟨y0, y1, y2, m, rfl, hl, u0, u1, u2⟩ := trod_struct3 Tryz.underlying25 h
  rw [cells_case] at hl
  obtain ⟨c0, c1, c2, rfl⟩ := three_of hl
  simp only [cells_int, cells_rows, cells_ints, List.drop, List.take] at u0 u1 u2
  obtain ⟨k, hc, rfl, _⟩ := DataW.trod_int Tryz.underlying3 u0
  obtain ⟨ra, rn, rc, rows, hc1, hr, hr2, _⟩ := rows_of u1 (fun k hk => hw k (by
    rw [DataW.weights, Tryz.underlying25]
    simp [DataW.weightsEach, hk]))
  obtain ⟨oa, on, oc, os, hc2, ho, ho2, ho3⟩ := ints_of u2 (fun k hk => hw k (by
    rw [DataW.weights, Tryz.underlying25]
    simp [DataW.weightsEach, hk]))
  cases hc
  cases hc1
  cases hc2
  exact ⟨⟨k, ra, rn, rc, oa, on, oc⟩, rows, os, rfl, hr, hr2, ho, ho2, ho3⟩
set_option maxRecDepth 100000 in
theorem open_case {W : World} {base : Nat} {v : Value} {d : DataW H} {p : List MemPlace} (hval : Value.okWide Tryz.prog W .any base 25 v) (h : DataW.Trod enc Tryz.prog W 0 (fun _ => true) true 25 v d p) (hw : ∀ k ∈ d.weights Tryz.prog 25, k ≤ reachBytes) :
    ∃ (x : CaseV) (rows : List (List ByteArray)) (os : List Int), v = x.v ∧ CaseAt W x rows os := by
  unfold Value.okWide at hval
  rw [Tryz.underlying25] at hval
  obtain ⟨cs, rfl, _⟩ := hval
  obtain ⟨n, hn⟩ := h
  obtain ⟨x, rows, os, hc, hr⟩ := case_of hn hw
  refine ⟨x, rows, os, ?_, hr⟩
  have e : cs.toList = [.int .i64 x.ar, .slice x.ra x.rn x.rc, .slice x.oa x.on x.oc] := hc
  obtain ⟨l⟩ := cs
  cases e
  rfl
set_option maxRecDepth 100000 in
theorem open_rows {W : World} {base : Nat} {v : Value} {d : DataW H} {p : List MemPlace} (hval : Value.okWide Tryz.prog W .any base 22 v) (h : DataW.Trod enc Tryz.prog W 0 (fun _ => true) true 22 v d p) (hw : ∀ k ∈ d.weights Tryz.prog 22, k ≤ reachBytes) :
    ∃ (a : Option Addr) (n cap : Nat) (rs : List (List ByteArray)), v = .slice a n cap ∧ SliceAt rowC 1 W a n rs ∧ n ≤ maxLen := by
  obtain ⟨n, hn⟩ := h
  obtain ⟨a, len, cap, rfl⟩ := okWide_slice Tryz.underlying22 hval
  obtain ⟨a', len', cap', rs, hc, hr, hl, _⟩ := rows_of hn hw
  cases (hc : [Value.slice a len cap] = _)
  exact ⟨_, _, _, rs, rfl, hr, hl⟩
theorem post_of_ext {P : Program} {f : Func} {s : ChangeSpec} {apart fresh handsOn again : Bool} {W W' : World} {args : Array Value} {v : Value} {ds gs : List (DataW H)} {before pa pv : List MemPlace}
    (hW : DataW.Whole enc P f.params.toList s.vars apart W args.toList ds gs before) (hb : Ext W W')
    (hres : ∀ (b : Nat) (sp : Nat → Bool) (hd : Bool), DataW.TrodAll enc P W' b sp hd f.resultTypes.toList (v.resultList f.resultTypes.size) (s.fn H (ds ++ gs)).results [])
    (hargs : ∀ sp : Nat → Bool, (∀ p ∈ before, sp p.block = true) → DataW.TrodAll enc P W' 0 sp true f.params.toList args.toList (s.fn H (ds ++ gs)).args pa)
    (hvars : ∀ sp : Nat → Bool, (∀ p ∈ before, sp p.block = true) → DataW.TrodVars enc P W' sp s.vars (s.fn H (ds ++ gs)).vars pv)
    (hps : before = pa ++ pv)
    (hok : ∀ (j : Nat) (t : TypeId) (r : Value), f.resultTypes[j]? = some t → (v.resultList f.resultTypes.size)[j]? = some r → Value.okWide P W' .any 0 t r) :
    s.post enc P f apart fresh handsOn again W args v W' := by
  have hlt : ∀ p ∈ before, p.block < W.heap.size := fun p hp => by simpa using hW.lt p hp
  have hold : ∀ p ∈ before, (fun b => decide (b < W.heap.size)) p.block = true := fun p hp => by simpa using hlt p hp
  refine ⟨ds, gs, before, [], pa, pv, hW, hres _ _ _, hargs _ hold, hvars _ hold, ?_, fun _ => ?_⟩
  · exact hb.frame _
  · obtain ⟨_, _, _, _, _, hz, hn⟩ := hW
    refine ⟨hok, _, _, ([] ++ pa) ++ pv, ⟨[] ++ pa, pv, trodAll_append (hargs _ (fun _ _ => rfl)) (hres _ _ _), hvars _ (fun _ _ => rfl), rfl, ?_, ?_⟩, ?_⟩
    · intro b off hp
      have hp' : MemPlace.cell b off ∈ before := by rw [hps]; simpa using hp
      rw [hb.frozen (p := ⟨b, off, none⟩) (hlt _ hp')]
      exact hz b off hp'
    · intro ha
      have := hn ha
      rw [hps] at this
      simpa using this
    · intro p hp _
      rw [hps]
      simpa using hp
end
end Go.Proofs.YthjpfplebbnbpaaGreat
