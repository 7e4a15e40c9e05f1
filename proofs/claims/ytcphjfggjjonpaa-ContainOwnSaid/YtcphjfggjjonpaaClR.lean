/- Rows of rules; the walks of slices.Clone and slices.Delete at rules. -/
import Derived.Test.YtcphjfggjjonpaaRls
import Derived.Test.YtcphjfggjjonpaaClone
import Derived.Deep.RegionLaw
import Derived.Lib.SliceRun
namespace Go.Proofs.Ytcphjfggjjonpaa
open Go.ChangeShapes Go.WideShapes Go.ChangeAt Go.RowKit
/-- A rule, and where its lists lie. -/
abbrev RuleQ := Rule × (Option Addr × Nat × Nat) × (Option Addr × Nat × Nat)
def valsQ (q : RuleQ) : List Value := [.string q.1.head.pred, .slice q.2.1.1 q.2.1.2.1 q.2.1.2.2, .slice q.2.2.1 q.2.2.2.1 q.2.2.2.2]
def flatQ (qs : List RuleQ) : List Value := qs.flatMap valsQ
def okQ (w : World) (q : RuleQ) : Prop := RuleV w q.1 q.2.1.1 q.2.1.2.1 q.2.1.2.2 q.2.2.1 q.2.2.2.1 q.2.2.2.2
theorem okQ.keep {W w : World} (hb : Ext W w) {q : RuleQ} (h : okQ W q) : okQ w q := RuleV.keep hb h
theorem flatQ_len (qs : List RuleQ) : (flatQ qs).length = qs.length * 3 := by
  induction qs with
  | nil => rfl
  | cons t ts ih => simp only [flatQ, valsQ, List.flatMap_cons, List.length_append, List.length_cons, List.length_nil] at ih ⊢; omega
theorem flatQ_append (a b : List RuleQ) : flatQ (a ++ b) = flatQ a ++ flatQ b := by simp [flatQ]
theorem flatQ_one (qs : List RuleQ) : ∀ u ∈ flatQ qs, u.oneCell' = true := by
  intro u hu
  obtain ⟨p, _, h⟩ := List.mem_flatMap.1 hu
  simp [valsQ] at h
  rcases h with rfl | rfl | rfl <;> rfl
theorem flatQ_get (qs : List RuleQ) (i j : Nat) (q : RuleQ) (h : qs[i]? = some q) (hj : j < 3) : (flatQ qs)[i * 3 + j]? = (valsQ q)[j]? := by
  induction qs generalizing i with
  | nil => simp at h
  | cons a ts ih =>
    have e : flatQ (a :: ts) = valsQ a ++ flatQ ts := rfl
    cases i with
    | zero =>
      simp at h
      subst h
      rw [e, Nat.zero_mul, Nat.zero_add, List.getElem?_append_left (by simpa [valsQ] using hj)]
    | succ i =>
      rw [e, show (i + 1) * 3 + j = (i * 3 + j) + 3 by omega, List.getElem?_append_right (by simp [valsQ]), show (i * 3 + j) + 3 - (valsQ a).length = i * 3 + j by simp [valsQ]]
      exact ih i (by simpa using h)
/-- The rules of a slice with their lists' addresses. -/
theorem RulesAt.parts {w : World} {a : Option Addr} {n : Nat} {rs : List Rule} (h : RulesAt w a n rs) : ∃ qs : List RuleQ, qs.map (·.1) = rs ∧ (∀ q ∈ qs, okQ w q) ∧ ∀ ad, a = some ad → ∀ j u, (flatQ qs)[j]? = some u → w.cell? (ad.add j) = some u := by
  have hx : ∀ i : Fin rs.length, ∃ q : RuleQ, q.1 = rs[i] ∧ okQ w q ∧ ∀ b off, a = some ⟨b, off, none⟩ → ∀ j u, (valsQ q)[j]? = some u → w.cell? ⟨b, off + i * 3 + j, none⟩ = some u := by
    intro i
    obtain ⟨b, off, ha, ah, nh, ch, ab, nb, cb, h0, h1, h2, hv⟩ := h.2.2 i rs[i] (List.getElem?_eq_getElem i.2)
    refine ⟨(rs[i], (ah, nh, ch), (ab, nb, cb)), rfl, hv, fun b' off' e j u hu => ?_⟩
    rw [ha] at e
    cases e
    have hj : j < 3 := (List.getElem?_eq_some_iff.1 hu).1
    match j, hj with
    | 0, _ => cases hu; exact h0
    | 1, _ => cases hu; exact h1
    | 2, _ => cases hu; exact h2
  let qs : List RuleQ := List.ofFn fun i => (hx i).choose
  have hqs : ∀ (i : Nat) (hi : i < rs.length), qs[i]? = some (hx ⟨i, hi⟩).choose := by
    intro i hi
    simp [qs, hi]
  have hlen : qs.length = rs.length := by simp [qs]
  refine ⟨qs, ?_, ?_, ?_⟩
  · apply List.ext_getElem?
    intro i
    by_cases hi : i < rs.length
    · rw [List.getElem?_map, hqs i hi, List.getElem?_eq_getElem hi]
      exact congrArg some (hx ⟨i, hi⟩).choose_spec.1
    · rw [List.getElem?_map, List.getElem?_eq_none (by omega), List.getElem?_eq_none (by omega)]
      rfl
  · intro p hp
    obtain ⟨i, hi⟩ := List.mem_iff_getElem?.1 hp
    have hil : i < rs.length := by rw [← hlen]; exact (List.getElem?_eq_some_iff.1 hi).1
    rw [hqs i hil] at hi
    cases hi
    exact (hx ⟨i, hil⟩).choose_spec.2.1
  · intro ad e j u hu
    have hj := (List.getElem?_eq_some_iff.1 hu).1
    rw [flatQ_len, hlen] at hj
    have hi : j / 3 < rs.length := by omega
    have hm : j % 3 < 3 := Nat.mod_lt _ (by decide)
    have hg := flatQ_get qs (j / 3) (j % 3) _ (hqs _ hi) hm
    rw [show j / 3 * 3 + j % 3 = j by omega, hu] at hg
    obtain ⟨b, off, ha, _⟩ := h.2.2 (j / 3) rs[j / 3] (List.getElem?_eq_getElem hi)
    have hc := (hx ⟨j / 3, hi⟩).choose_spec.2.2 b off ha (j % 3) u hg.symm
    rw [ha] at e
    cases e
    rw [Addr.add_lit, show off + j = off + (j / 3) * 3 + j % 3 by omega]
    exact hc
theorem info_rule : (Try.prog.info? 27).map (fun i => (i.zero, i.size, i.bytes)) = some (some (.agg #[.string ⟨#[]⟩, .slice none 0 0, .slice none 0 0]), 3, 64) := by kernel_rfl
theorem nil_eqR (w : World) : (binOp .eql 55 (.slice none 0 0) (.slice none 0 0)).run Try.prog w = .ok (.bool true) w := by kernel_rfl
theorem some_eqR (ad : Addr) (n cap : Nat) (w : World) : (binOp .eql 55 (.slice (some ad) n cap) (.slice none 0 0)).run Try.prog w = .ok (.bool false) w := by kernel_rfl
theorem c_CloneR (qs : List RuleQ) (a : Option Addr) (n cap : Nat) (w : World) (hl : qs.length = n) (hn : n ≤ 2199023255488) (hc : capOk a n cap) (hcells : ∀ ad, a = some ad → ∀ j u, (flatQ qs)[j]? = some u → w.cell? (ad.add j) = some u) :
    Calls Try.prog 49 #[.slice a n cap] w fun e w' => ∃ a' c', e = .returned (.slice a' n c') ∧ w'.ownsRow w.heap.size 27 3 (.slice a' n c') n (flatQ qs) ∧ Ext w w' := by
  have HC := Lib.hid hc
  clear hc
  cases a with
  | none =>
    obtain ⟨rfl, rfl⟩ := HC.out.2 rfl
    obtain rfl : qs = [] := List.eq_nil_of_length_eq_zero hl
    have eqn := nil_eqR
    go_enter Try.func49, Try.ntmps49
    go_wp2
    go_returns
    exact ⟨none, 0, rfl, World.ownsRow_nil _ _ _ _, Below.refl _ _⟩
  | some ad =>
    obtain ⟨i0, hi, hz0, hz1, hz2⟩ := info_parts info_rule
    have hd3 : 0 + n ≤ maxLen := by unfold maxLen; omega
    have hd4 : (0 + n) * 64 ≤ 140737488355328 := by omega
    have hfl : (flatQ qs).length = n * 3 := by rw [flatQ_len, hl]
    have hown0 : (w.alloc (.cells #[] 27)).ownsRow w.heap.size 27 3 (.slice (some ⟨w.heap.size, 0, none⟩) 0 0) 0 [] := World.ownsRow_lit w #[] 0 (Nat.le_refl _) (by unfold maxLen; omega) rfl
    have hsrc : ∀ x, some ad = some x → ∀ j u, (flatQ qs)[j]? = some u → (w.alloc (.cells #[] 27)).cell? (x.add j) = some u := fun x e j u hu => keep (ext_alloc (Below.refl _ _) _) (hcells x e j u hu)
    have HF := Lib.hid hfl
    have H3 := Lib.hid hd3
    have H4 := Lib.hid hd4
    have HSRC := Lib.hid hsrc
    clear hfl hd3 hd4 hsrc
    have eqn := some_eqR ad n cap
    go_enter Try.func49, Try.ntmps49
    go_wp2_with (at_builtin; go_loud (refine wpList_append_any rfl _ _ 55 rfl w.heap.size 27 i0 (.agg #[.string ⟨#[]⟩, .slice none 0 0, .slice none 0 0]) 3 64 Try.underlying55 hi hz0 hz1 hz2 rfl (by decide) _ _ _ rfl hown0 (some ad) n cap (flatQ qs) rfl HC.out.2 HF.out HSRC.out (flatQ_one _) H3.out H4.out (size_alloc_le (Nat.le_refl _)) ?_); intro v1 w1 own1 g1)
    obtain ⟨a1, c1, rfl, _⟩ := own_form own1
    have hb := ext_ownB (ext_alloc (Below.refl _ w : Ext w w) _) g1 (by intro g e; cases e; exact Nat.le_refl _)
    go_returns
    rw [Nat.zero_add, List.nil_append] at own1
    exact ⟨a1, c1, by rw [Nat.zero_add]; rfl, own1, hb⟩
def putL : List Value → Nat → List Value → List Value
  | xs, _, [] => xs
  | xs, j, v :: r => putL (xs.set j v) (j + 1) r
theorem putL_eq (news : List Value) : ∀ (xs : List Value) (j : Nat), j + news.length ≤ xs.length → putL xs j news = xs.take j ++ news ++ xs.drop (j + news.length) := by
  induction news with
  | nil => intro xs j _; simp [putL]
  | cons v r ih =>
    intro xs j h
    rw [List.length_cons] at h
    rw [putL, ih (xs.set j v) (j + 1) (by rw [List.length_set]; omega), List.length_cons]
    have e1 : (xs.set j v).take (j + 1) = xs.take j ++ [v] := by
      rw [List.take_add_one, List.getElem?_set, if_pos rfl, if_pos (by omega), List.take_set, List.set_eq_of_length_le (List.length_take_le _ _)]
      rfl
    have e2 : (xs.set j v).drop (j + 1 + r.length) = xs.drop (j + (r.length + 1)) := by
      rw [List.drop_set_of_lt (by omega), show j + 1 + r.length = j + (r.length + 1) by omega]
    rw [e1, e2]
    simp
theorem own_setCells {base n size g cap : Nat} {e : TypeId} (news : List Value) : ∀ (w : World) (j : Nat) (xs : List Value), w.ownsRow base e size (.slice (some ⟨g, 0, none⟩) n cap) n xs → (w.setCells g j news).ownsRow base e size (.slice (some ⟨g, 0, none⟩) n cap) n (putL xs j news) ∧ w.grownBy (w.setCells g j news) (some g) := by
  induction news with
  | nil => intro w j xs h; exact ⟨h, rfl, rfl, rfl, Nat.le_refl _, fun _ _ _ => rfl⟩
  | cons v r ih =>
    intro w j xs h
    obtain ⟨h1, h2⟩ := h.stored j v
    obtain ⟨h3, h4⟩ := ih _ (j + 1) _ h1
    exact ⟨h3, h4.os.trans h2.os, h4.tape.trans h2.tape, h4.output.trans h2.output, Nat.le_trans h2.size h4.size, fun k hk hne => (h4.block k (Nat.lt_of_lt_of_le hk h2.size) hne).trans (h2.block k hk hne)⟩
theorem run_clearR (w : World) (ty : TypeId) (b o c : Nat) (hc : ∀ j, j < 3 → (w.cell? ⟨b, o + j, none⟩).isSome = true) (hf : ∀ j, j < 3 → w.frozen? ⟨b, o + j, none⟩ = false) :
    (Builtin.clear_ #[55] ty #[.slice (some ⟨b, o, none⟩) 1 c]).run Try.prog w = .ok (.tuple #[]) (w.setCells b o [.string ⟨#[]⟩, .slice none 0 0, .slice none 0 0]) := by
  have hv : ∀ w, (zeroValue 27).run Try.prog w = .ok (.agg #[.string ⟨#[]⟩, .slice none 0 0, .slice none 0 0]) w := fun w => by kernel_rfl
  have hzc : (Builtin.zeroCells (Value.agg #[.string ⟨#[]⟩, .slice none 0 0, .slice none 0 0]).cells 1).toList = [.string ⟨#[]⟩, .slice none 0 0, .slice none 0 0] := by kernel_rfl
  have hst := run_storeCells_cells (P := Try.prog) b o [.string ⟨#[]⟩, .slice none 0 0, .slice none 0 0] 0 w (by simpa using hc) (by simpa using hf) (by intro v hv'; simp at hv'; rcases hv' with rfl | rfl <;> rfl)
  simp only [Nat.add_zero] at hst
  simp [Builtin.clear_, run_underlying Try.underlying55, hv, hzc, hst]
theorem eraseQ (qs : List RuleQ) (i : Nat) (h : i < qs.length) (z : List Value) (hz : z.length = 3) : (putL (putL (flatQ qs) (i * 3) (flatQ (qs.drop (i + 1)))) ((qs.length - 1) * 3) z).take ((qs.length - 1) * 3) = flatQ (qs.eraseIdx i) := by
  have hl : (flatQ (qs.drop (i + 1))).length = (qs.length - (i + 1)) * 3 := by rw [flatQ_len, List.length_drop]
  have h1 : i * 3 + (qs.length - (i + 1)) * 3 = (qs.length - 1) * 3 := by omega
  have e1 := putL_eq (flatQ (qs.drop (i + 1))) (flatQ qs) (i * 3) (by rw [hl, flatQ_len]; omega)
  have e2 : (flatQ qs).take (i * 3) = flatQ (qs.take i) := by
    have e := flatQ_append (qs.take i) (qs.drop i)
    rw [List.take_append_drop] at e
    rw [e]
    have hl2 : (flatQ (qs.take i)).length = i * 3 := by rw [flatQ_len, List.length_take, Nat.min_eq_left (by omega)]
    rw [← hl2, List.take_left']
    rfl
  rw [e1, e2, hl, h1]
  have hl3 : (flatQ (qs.take i) ++ flatQ (qs.drop (i + 1))).length = (qs.length - 1) * 3 := by
    rw [List.length_append, hl, flatQ_len, List.length_take, Nat.min_eq_left (by omega)]
    omega
  rw [putL_eq z _ _ (by rw [List.length_append, hl3, List.length_drop, flatQ_len, hz]; omega), List.append_assoc, List.take_append_of_le_length (by rw [List.length_take, List.length_append, hl3]; omega), List.take_take, Nat.min_self, ← hl3, List.take_left', List.eraseIdx_eq_take_drop_succ, flatQ_append]
  rfl
set_option maxRecDepth 20000 in
set_option maxHeartbeats 2000000 in
theorem c_DeleteR (qs : List RuleQ) (g n cap i base : Nat) (w : World) (ho : w.ownsRow base 27 3 (.slice (some ⟨g, 0, none⟩) n cap) n (flatQ qs)) (hi : i < n) (hcap : n ≤ cap) :
    Calls Try.prog 50 #[.slice (some ⟨g, 0, none⟩) n cap, .int .i64 (i : Int), .int .i64 ((i : Int) + 1)] w fun e w' => e = .returned (.slice (some ⟨g, 0, none⟩) (n - 1) cap) ∧ w'.ownsRow base 27 3 (.slice (some ⟨g, 0, none⟩) (n - 1) cap) (n - 1) (flatQ (qs.eraseIdx i)) ∧ w.grownBy w' (some g) := by
  obtain ⟨i0, hi0, hz0, hz1, hz2⟩ := info_parts info_rule

  have p1 : (0 : Int) ≤ (i : Int) := by omega
  have p2 : (i : Int) ≤ (cap : Int) := by omega
  have p3 : (i : Int) + 1 ≤ (n : Int) := by omega
  have p4 : (n : Int) ≤ (cap : Int) := by omega
  have p5 : (0 : Int) ≤ (i : Int) + 1 := by omega
  have t1 : ((i : Int) == (i : Int) + 1) = false := beq_eq_false_iff_ne.2 (by omega)
  have HO := Lib.hid ho
  clear ho
  go_enter Try.func50, Try.ntmps50
  go_wp2_with fail
  have hl : qs.length = n := by have h := HO.out.1; rw [flatQ_len] at h; omega
  have s1 : Hid ((flatQ (qs.drop (i + 1))).length = (n - (i + 1)) * 3) := by show _ = _; rw [flatQ_len, List.length_drop, hl]
  have s2 : Hid (∀ u ∈ flatQ (qs.drop (i + 1)), u.oneCell' = true) := flatQ_one _
  have hcell : ∀ j, j < n * 3 → (w.cell? ⟨g, j, none⟩).isSome = true ∧ w.frozen? ⟨g, j, none⟩ = false := fun j hj => by
    refine ⟨?_, HO.out.frozenAt j⟩
    rw [HO.out.cellAt j hj, List.getElem?_eq_getElem (by rw [flatQ_len, hl]; exact hj)]
    rfl
  have s3 : Hid (∀ t, t < (flatQ (qs.drop (i + 1))).length → (w.drew.cell? ⟨g, 0 + i * 3 + t, none⟩).isSome = true ∧ w.drew.frozen? ⟨g, 0 + i * 3 + t, none⟩ = false) := fun t ht => by
    rw [s1.out] at ht
    exact hcell _ (by omega)
  have HLN := Lib.hid hl
  have HC := Lib.hid hcell
  obtain ⟨A, hA, hsrc⟩ : ∃ A : Addr, (if cap = i + 1 then some (⟨g, 0, none⟩ : Addr) else some ⟨g, (i + 1) * 3, none⟩) = some A ∧ Hid (∀ t u, (flatQ (qs.drop (i + 1)))[t]? = some u → w.drew.cell? (A.add t) = some u) := by
    have hh : (flatQ (qs.drop (i + 1))).length = (n - (i + 1)) * 3 := s1.out
    by_cases h : cap = i + 1
    · refine ⟨⟨g, 0, none⟩, by simp [h], fun t u hu => ?_⟩
      have := (List.getElem?_eq_some_iff.1 hu).1
      omega
    · refine ⟨⟨g, (i + 1) * 3, none⟩, by simp [h], fun t u hu => ?_⟩
      have ht := (List.getElem?_eq_some_iff.1 hu).1
      rw [Addr.add_lit]
      show w.cell? _ = _
      rw [HO.out.cellAt _ (by omega), ← hu]
      have e := flatQ_append (qs.take (i + 1)) (qs.drop (i + 1))
      rw [List.take_append_drop] at e
      have hl2 : (flatQ (qs.take (i + 1))).length = (i + 1) * 3 := by rw [flatQ_len, List.length_take, Nat.min_eq_left (by omega)]
      rw [e, List.getElem?_append_right (by omega), hl2, show (i + 1) * 3 + t - (i + 1) * 3 = t by omega]
  clear hl hcell
  obtain ⟨W1, hW1⟩ : ∃ W1, W1 = w.drew.setCells g (0 + i * 3) (flatQ (qs.drop (i + 1))) := ⟨_, rfl⟩
  obtain ⟨O1, G1⟩ := own_setCells (flatQ (qs.drop (i + 1))) w.drew (0 + i * 3) _ HO.out.drew
  rw [← hW1] at O1 G1
  have hcl : (Builtin.clear_ #[55] 0 #[.slice (some ⟨g, (i + (n - (i + 1))) * 3, none⟩) (n - (i + (n - (i + 1)))) (cap - (i + (n - (i + 1))))]).run Try.prog W1 = .ok (.tuple #[]) (W1.setCells g ((i + (n - (i + 1))) * 3) [.string ⟨#[]⟩, .slice none 0 0, .slice none 0 0]) := by
    rw [show n - (i + (n - (i + 1))) = 1 by omega]
    refine run_clearR W1 0 g _ _ (fun j hj => ?_) (fun j _ => O1.frozenAt _)
    rw [O1.cellAt _ (by omega)]
    have := O1.1
    rw [List.getElem?_eq_getElem (by omega)]
    rfl
  have hW := Lib.hid hW1
  have HO1 := Lib.hid O1
  have HG1 := Lib.hid G1
  clear hW1 O1 G1
  go_region_law (refine step_append_room rfl (.tmp 22) (.tmp 25) 55 rfl 27 i0 3 Try.underlying55 hi0 hz1 g 0 i cap (by simp [Act.eval, Act.put]) A (n - (i + 1)) (cap - (i + 1)) (flatQ (qs.drop (i + 1))) (by simp [Act.eval, Act.put]) s1.out hsrc.out s2.out (by omega) s3.out ?_; rw [← hW.out])
  go_wp2
  go_returns
  obtain ⟨O2, G2⟩ := own_setCells [.string ⟨#[]⟩, .slice none 0 0, .slice none 0 0] W1 ((i + (n - (i + 1))) * 3) _ HO1.out
  have e1 : i + (n - (i + 1)) = n - 1 := by omega
  refine ⟨by rw [e1]; rfl, ?_, ?_⟩
  · obtain ⟨m, rfl⟩ : ∃ m, n = m + 1 := ⟨n - 1, by omega⟩
    have O3 := own_pop O2
    have e2 := eraseQ qs i (by rw [HLN.out]; exact hi) [.string ⟨#[]⟩, .slice none 0 0, .slice none 0 0] rfl
    rw [HLN.out] at e2
    rw [e1, Nat.zero_add] at O3
    rw [show m + 1 - 1 = m from rfl] at e2 O3 ⊢
    rw [e2] at O3
    rw [e1]
    exact O3
  · refine ⟨G2.os.trans HG1.out.os, ?_, G2.output.trans HG1.out.output, Nat.le_trans HG1.out.size G2.size, fun k hk hne => (G2.block k (Nat.lt_of_lt_of_le hk HG1.out.size) hne).trans (HG1.out.block k hk hne)⟩
    exact G2.tape.trans HG1.out.tape
end Go.Proofs.Ytcphjfggjjonpaa
