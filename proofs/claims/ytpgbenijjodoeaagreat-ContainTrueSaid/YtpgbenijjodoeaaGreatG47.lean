/- Plain laws of ContainTrue: what is within brings no more; over its own body, frozen, a rule tells whether another one is. The walks of the law's few, text, clean. Plain law: a rule's own body, frozen, tells whether another rule is laid onto it. The walk of the law's frozen$1: what a term becomes. -/
import Derived.Test.YtpgbenijjodoeaaGreatG4
import Derived.Test.YtpgbenijjodoeaaGreatG13
import Derived.Test.YtpgbenijjodoeaaGreatG45
import Derived.Test.YtpgbenijjodoeaaGreatG46
import Derived.Laws.IdiomStrings
import Derived.Deep.RegionHeld3
import Derived.Deep.DeepCutAuto
namespace Go.Proofs.YtpgbenijjodoeaaGreat
open K (Term Atom Rule plain bodyVars termVars mayTerm mayTerms mayAtom mayRule mayLong mayWord Hom FitA FitT FitL TMap Thing thingOf badT)
theorem may_each {ts : List Term} : ∀ {h : Bool}, mayTerms ts h = 0 → ∀ t ∈ ts, mayTerm t = 0 := by
  induction ts with
  | nil => intro h _ t ht; cases ht
  | cons a ts ih =>
    intro h hm t ht
    rw [mayTerms] at hm
    split at hm
    · split at hm
      · simp at hm
      · split at hm
        · rename_i q; exact absurd hm q
        · rename_i q
          rcases List.mem_cons.1 ht with rfl | ht
          · simpa using q
          · exact ih hm t ht
    · split at hm
      · rename_i q; exact absurd hm q
      · rename_i q
        rcases List.mem_cons.1 ht with rfl | ht
        · simpa using q
        · exact ih hm t ht
theorem mayLong_size {x : ByteArray} (h : mayLong x = 0) : x.size ≤ 4096 := by
  unfold mayLong at h
  split at h
  · simp at h
  · omega
theorem may_size {t : Term} (h : mayTerm t = 0) : t.text.size ≤ 4096 := by
  unfold mayTerm at h
  split at h
  · exact mayLong_size h
  · split at h
    · split at h
      · rename_i q; rw [q]; decide
      · simp at h
    · split at h
      · split at h
        · simp at h
        · unfold mayWord at h
          split at h
          · exact mayLong_size h
          · simp at h
      · simp at h
theorem may_blank {t : Term} (h : mayTerm t = 0) (hk : t.kind = 2) : t.text = ⟨#[]⟩ := by
  unfold mayTerm at h
  rw [if_neg (by omega), if_pos (.inl hk)] at h
  split at h
  · assumption
  · simp at h
theorem mayAtom_parts {a : Atom} {hd : Bool} (h : mayAtom a hd = 0) : a.terms.length ≤ 64 ∧ ∀ t ∈ a.terms, mayTerm t = 0 := by
  unfold mayAtom at h
  split at h
  · rename_i q; exact absurd h q
  · split at h
    · simp at h
    · exact ⟨by omega, may_each h⟩
theorem plain_terms {r : Rule} (h : plain r = true) : (r.head.terms.length ≤ 64 ∧ ∀ t ∈ r.head.terms, mayTerm t = 0) ∧ r.body.length ≤ 64 ∧ ∀ l ∈ r.body, l.atom.terms.length ≤ 64 ∧ ∀ t ∈ l.atom.terms, mayTerm t = 0 := by
  obtain ⟨h1, h2, _⟩ := K.plain_may h
  obtain ⟨q1, q2, q3⟩ := K.mayRule_lits h1
  exact ⟨mayAtom_parts q1, q2, fun l hl => mayAtom_parts (K.mayLit_atom (q3 l hl) (h2 l hl))⟩
theorem mem_bodyVars {ls : List K.Lit} {v : ByteArray} : v ∈ bodyVars ls ↔ ∃ l ∈ ls, ∃ t ∈ l.atom.terms, t.kind = 1 ∧ t.text = v := by
  unfold bodyVars termVars
  rw [List.mem_flatMap]
  constructor
  · rintro ⟨l, hl, hv⟩
    rw [List.mem_filterMap] at hv
    obtain ⟨t, ht, e⟩ := hv
    split at e
    · rename_i hk
      exact ⟨l, hl, t, ht, hk, Option.some.inj e⟩
    · cases e
  · rintro ⟨l, hl, t, ht, hk, rfl⟩
    exact ⟨l, hl, List.mem_filterMap.2 ⟨t, ht, by rw [if_pos hk]⟩⟩
theorem bodyVars_len (ls : List K.Lit) (h : ∀ l ∈ ls, l.atom.terms.length ≤ 64) : (bodyVars ls).length ≤ 64 * ls.length := by
  induction ls with
  | nil => simp [bodyVars]
  | cons l ls ih =>
    have h1 := ih fun l' h' => h l' (by simp [h'])
    have h2 := h l (by simp)
    have h3 : (termVars l.atom.terms).length ≤ l.atom.terms.length := by unfold termVars; exact List.length_filterMap_le _ _
    have e : bodyVars (l :: ls) = termVars l.atom.terms ++ bodyVars ls := by simp [bodyVars]
    rw [e, List.length_append, List.length_cons]
    omega
theorem plain_vars {r : Rule} (h : plain r = true) : (varsR r).length ≤ 4096 := by
  obtain ⟨_, q2, q3⟩ := plain_terms h
  have h1 := nodup_sub _ (varsR_nodup r) (l' := bodyVars r.body) (fun x hx => by
    obtain ⟨l, hl, hk, ht⟩ := (varsR_mem r x).1 hx
    exact mem_bodyVars.2 ⟨l, hl, _, ht, rfl, rfl⟩)
  have h2 := bodyVars_len r.body fun l hl => (q3 l hl).1
  omega
theorem head_var {r : Rule} (h : plain r = true) {t : Term} (ht : t ∈ r.head.terms) (hk : t.kind = 1) : ∃ l ∈ r.body, ∃ t' ∈ l.atom.terms, t'.kind = 1 ∧ t'.text = t.text := by
  have := (K.plain_may h).2.2 t ht
  unfold badT at this
  rw [Bool.and_eq_false_iff] at this
  rcases this with q | q
  · simp at q; omega
  · simp at q
    exact mem_bodyVars.1 q.2
theorem plain_check {r : Rule} (h : plain r = true) : checkR r = 0 ∧ r.head.terms.any aggT = false ∧ (∀ t ∈ r.head.terms, t.text.size ≤ 4096) ∧ ∀ l ∈ r.body, l.kind = 1 := by
  obtain ⟨⟨q0, q1⟩, q2, q3⟩ := plain_terms h
  have hk := K.plain_head h
  have hb := K.plain_body h
  have h1 := (K.plain_may h).2.1
  have ha : r.head.terms.any aggT = false := by
    rw [List.any_eq_false]
    intro t ht
    have := hk t ht
    unfold aggT
    simp
    omega
  refine ⟨?_, ha, fun t ht => may_size (q1 t ht), h1⟩
  unfold checkR
  have hho : headOk r.head.terms = true := by
    unfold headOk
    have e1 : r.head.terms.any oddH = false := by
      rw [List.any_eq_false]
      intro t ht
      have := hk t ht
      unfold oddH
      simp
      omega
    have e2 : aggsN r.head.terms = 0 := by
      unfold aggsN
      rw [List.length_eq_zero_iff, List.filter_eq_nil_iff]
      exact List.any_eq_false.1 ha
    rw [e1, e2]
    simp [q0]
  rw [if_neg (by rw [hho]; simp), if_neg, if_neg, if_neg]
  · simp only [Bool.not_eq_true, List.any_eq_false]
    intro l hl
    have k1 := h1 l hl
    unfold badLit badCmp
    rw [decide_eq_false (by omega)]
    simp only [Bool.false_and, Bool.false_or, Bool.not_eq_true, List.any_eq_false]
    intro t _
    unfold badNeg
    rw [decide_eq_false (by omega)]
    simp
  · simp only [Bool.not_eq_true, List.any_eq_false]
    intro t ht
    unfold badHead safeT
    rcases hk t ht with k | k
    · rw [if_neg (by omega), if_neg (by omega)]
      obtain ⟨l, hl, t', ht', k', e⟩ := head_var h ht k
      have : t.text ∈ varsR r := (varsR_mem r t.text).2 ⟨l, hl, h1 l hl, by rw [← e, varT_of k']; exact ht'⟩
      simp [this]
    · rw [if_neg (by omega), if_pos (.inl k)]
      simp
  · simp only [Bool.not_eq_true, List.any_eq_false]
    intro l hl
    have k1 := h1 l hl
    unfold litOk
    rw [if_pos (.inl k1), decide_eq_true (q3 l hl).1]
    unfold shapedL
    have e : l.atom.terms.any oddT = false := by
      rw [List.any_eq_false]
      intro t ht
      have := hb l hl t ht
      unfold oddT
      simp
      omega
    simp [e]
/-- What is within brings no more. -/
theorem hom_derives {r s : Rule} (hr : plain r = true) (hs : plain s = true) (hh : Hom r s) {f : RelM} {y : List ByteArray} (d : Derives r f y) : Derives s f y := by
  obtain ⟨M, h, h1, h2⟩ := hh
  obtain ⟨σ, d1, d2⟩ := d
  have hq : ∀ k : Nat, ∃ q, ∀ l, r.body[k]? = some l → q ∈ rowsIn f l.atom.pred ∧ MatchV σ l.atom.terms q := fun k => by
    cases hk : r.body[k]? with
    | none => exact ⟨[], fun l e => by cases e⟩
    | some l =>
      obtain ⟨q, q1, q2⟩ := d1 l (List.mem_of_getElem? hk)
      exact ⟨q, fun l' e => by cases e; exact ⟨q1, q2⟩⟩
  obtain ⟨Q, hQ⟩ : ∃ Q : Nat → List ByteArray, ∀ k l, r.body[k]? = some l → Q k ∈ rowsIn f l.atom.pred ∧ MatchV σ l.atom.terms (Q k) := ⟨fun k => (hq k).choose, fun k => (hq k).choose_spec⟩
  obtain ⟨τ, hτ⟩ : ∃ τ : ByteArray → ByteArray, ∀ v th, M v = some th → τ v = if th.t.kind = 3 then th.t.text else if th.t.kind = 1 then σ th.t.text else gt (Q th.literal.toNat) th.place.toNat := ⟨fun v => match M v with
    | some th => if th.t.kind = 3 then th.t.text else if th.t.kind = 1 then σ th.t.text else gt (Q th.literal.toNat) th.place.toNat
    | none => ⟨#[]⟩, fun v th e => by simp only [e]⟩
  refine ⟨τ, fun l hl => ?_, ?_⟩
  · obtain ⟨i, hi⟩ := List.mem_iff_getElem?.1 hl
    obtain ⟨l', e1, ⟨e2, e3⟩, e4⟩ := h2 i l hi
    obtain ⟨g1, g2, g3⟩ := hQ _ _ e1
    refine ⟨Q (h i), by rw [e2]; exact g1, by rw [g2, e3], fun j t ht => ?_⟩
    have hj := (List.getElem?_eq_some_iff.1 ht).1
    obtain ⟨o, ho⟩ : ∃ o, l'.atom.terms[j]? = some o := ⟨_, List.getElem?_eq_getElem (by rw [← e3]; exact hj)⟩
    have ft := e4 j t o ht ho
    rw [Nat.zero_add] at ft
    obtain ⟨gv3, gv1⟩ := g3 j o ho
    refine ⟨fun k3 => ?_, fun k1 => ?_⟩
    · have := ft.1 k3
      subst this
      exact gv3 k3
    · rw [hτ _ _ (ft.2 k1)]
      rcases K.plain_body hr l' (List.mem_of_getElem? e1) o (List.mem_of_getElem? ho) with k | k | k
      · rw [if_neg (by rw [show (thingOf o _ j).t = o from rfl]; omega), if_pos (by exact k)]
        exact gv1 k
      · rw [if_neg (by rw [show (thingOf o _ j).t = o from rfl]; omega), if_neg (by rw [show (thingOf o _ j).t = o from rfl]; omega)]
        simp [thingOf, k]
      · rw [if_pos (by exact k)]
        exact gv3 k
  · rw [← d2]
    apply List.ext_getElem?
    intro j
    rw [List.getElem?_map, List.getElem?_map]
    cases ht : s.head.terms[j]? with
    | none =>
      have : r.head.terms[j]? = none := by
        rw [List.getElem?_eq_none_iff] at ht ⊢
        have := h1.1.2
        omega
      rw [this]
      rfl
    | some t =>
      have hj := (List.getElem?_eq_some_iff.1 ht).1
      obtain ⟨o, ho⟩ : ∃ o, r.head.terms[j]? = some o := ⟨_, List.getElem?_eq_getElem (by rw [← h1.1.2]; exact hj)⟩
      rw [ho]
      have ft := h1.2 j t o ht ho
      show some (valT τ t) = some (valT σ o)
      congr 1
      by_cases k3 : t.kind = 3
      · have := ft.1 k3
        subst this
        unfold valT
        rw [if_pos k3, if_pos k3]
      · by_cases k1 : t.kind = 1
        · unfold valT
          rw [if_neg k3, hτ _ _ (ft.2 k1)]
          rw [show (thingOf o _ _).t = o from rfl]
          rcases K.plain_head hr o (List.mem_of_getElem? ho) with k | k
          · rw [if_neg (by omega), if_pos k, if_neg (by omega)]
          · rw [if_pos k, if_pos k]
        · have := K.plain_head hs t (List.mem_of_getElem? ht)
          omega
end Go.Proofs.YtpgbenijjodoeaaGreat
namespace Go.Proofs.YtpgbenijjodoeaaGreat
open Go.ChangeShapes Go.WideShapes Go.ChangeAt Go.RowKit
/-- A text that stands for the n-th variable or blank. -/
def frz (n : Nat) : ByteArray := ⟨#[102, 114, 111, 122, 101, 110, 32, UInt8.ofNat n, UInt8.ofNat (n / 256)]⟩
set_option maxRecDepth 100000 in
theorem c_text (n : Nat) (w : World) : Calls Tryz.prog 36 #[.int .i64 (n : Int)] w fun e w' => e = .returned (.string (frz n)) ∧ Ext w w' := by
  have h0 : IntKind.u8.wrap (n : Int) = ((UInt8.ofNat n).toNat : Int) := by rw [IntKind.wrap_u8]; simp
  have h1 : IntKind.u8.wrap ((n : Int) / 256) = ((UInt8.ofNat (n / 256)).toNat : Int) := by rw [IntKind.wrap_u8]; simp
  obtain ⟨b0, e0⟩ : ∃ b, UInt8.ofNat n = b := ⟨_, rfl⟩
  obtain ⟨b1, e1⟩ : ∃ b, UInt8.ofNat (n / 256) = b := ⟨_, rfl⟩
  have FZ : Hid (frz n = ⟨#[102, 114, 111, 122, 101, 110, 32, b0, b1]⟩) := by show _ = _; unfold frz; rw [e0, e1]
  rw [e0] at h0
  rw [e1] at h1
  have kc := run_convert_bytes_back (P := Tryz.prog) (w.alloc (.cells #[.int .u8 (b0.toNat : Int), .int .u8 (b1.toNat : Int)] 5)) 115 9 5 ⟨w.heap.size, 0, none⟩ 2 [b0, b1] Tryz.underlying115 Tryz.underlying5 Tryz.underlying9 (by
    intro j hj
    have : j = 0 ∨ j = 1 := by simp at hj; omega
    rcases this with rfl | rfl <;> simp [Addr.add])
  simp only [List.length_cons, List.length_nil] at kc
  clear e0 e1
  go_enter Tryz.func36, Tryz.ntmps36
  go_wp2
  go_returns
  refine ⟨?_, ext_alloc (Below.refl _ _) _⟩
  rw [FZ.out]
  rfl
end Go.Proofs.YtpgbenijjodoeaaGreat
namespace Go.Proofs.YtpgbenijjodoeaaGreat
open K (Term Atom Rule plain bodyVars mayTerm Hom FitA FitT FitL TMap Thing thingOf)
inductive Tag where
  | var (v : ByteArray)
  | blank (k j : Nat)
def tagOf (t : Term) (k j : Nat) : Tag := if t.kind = 1 then .var t.text else .blank k j
theorem frz_inj {i j : Nat} (hi : i < 65536) (hj : j < 65536) (h : frz i = frz j) : i = j := by
  unfold frz at h
  injection h with h
  have h1 := congrArg (fun a : Array UInt8 => (a.toList[7]?.getD 0).toNat) h
  have h2 := congrArg (fun a : Array UInt8 => (a.toList[8]?.getD 0).toNat) h
  simp at h1 h2
  omega
/-- Does a constant look as a frozen one? -/
def oddC (t : Term) : Bool := decide (t.kind = 3) && (decide (6 < t.text.size) && decide (t.text.extract 0 7 = ⟨#[102, 114, 111, 122, 101, 110, 32]⟩))
def cleanR (r : Rule) : Bool := (r.body.all fun l => !l.atom.terms.any oddC) && !r.head.terms.any oddC
theorem frz_odd {t : Term} {i : Nat} (hk : t.kind = 3) (h : t.text = frz i) : oddC t = true := by
  unfold oddC
  rw [h, decide_eq_true hk]
  have h1 : (frz i).size = 9 := rfl
  have h2 : (frz i).extract 0 7 = ⟨#[102, 114, 111, 122, 101, 110, 32]⟩ := by
    apply ByteArray.ext
    rw [ByteArray.data_extract]
    unfold frz
    simp
  rw [h1, h2]
  simp
/-- What a term becomes, frozen. -/
structure Val (T : Nat → Tag) (σ : ByteArray → ByteArray) (k j : Nat) (t : Term) (x : ByteArray) : Prop where
  c : t.kind = 3 → x = t.text
  v : t.kind = 1 → x = σ t.text
  n : t.kind ≠ 3 → ∃ i, i ≤ 10000 ∧ x = frz i ∧ T i = tagOf t k j
/-- A rule's body and head, frozen. -/
structure Froz (r : Rule) (T : Nat → Tag) (σ : ByteArray → ByteArray) (rows : List (List ByteArray)) (head : List ByteArray) : Prop where
  body : ∀ (k : Nat) (l : K.Lit), r.body[k]? = some l → ∃ q, rows[k]? = some q ∧ q.length = l.atom.terms.length ∧ ∀ j t, l.atom.terms[j]? = some t → Val T σ k j t (gt q j)
  len : head.length = r.head.terms.length
  head : ∀ (j : Nat) (t : Term), r.head.terms[j]? = some t → Val T σ 0 j t (gt head j)
/-- A base that holds a body's rows, and no others. -/
def BodyIn (r : Rule) (rows : List (List ByteArray)) (f : RelM) : Prop := ∀ p y, y ∈ rowsIn f p ↔ ∃ (k : Nat) (l : K.Lit), r.body[k]? = some l ∧ l.atom.pred = p ∧ rows[k]? = some y
theorem val_same {T : Nat → Tag} {σ : ByteArray → ByteArray} {k j k' j' : Nat} {o o' : Term} {x : ByteArray} (h : Val T σ k j o x) (h' : Val T σ k' j' o' x) (ho : oddC o = false) (ho' : oddC o' = false) (hk : o.kind = 1 ∨ o.kind = 2 ∨ o.kind = 3) (hk' : o'.kind = 1 ∨ o'.kind = 2 ∨ o'.kind = 3) (hb : o.kind = 2 → o.text = ⟨#[]⟩) (hb' : o'.kind = 2 → o'.text = ⟨#[]⟩) : thingOf o (k : Nat) j = thingOf o' (k' : Nat) j' := by
  by_cases h3 : o.kind = 3
  · by_cases h3' : o'.kind = 3
    · have e : o = o' := by
        obtain ⟨a, b⟩ := o
        obtain ⟨a', b'⟩ := o'
        have := (h.c h3).symm.trans (h'.c h3')
        simp only at h3 h3' this
        rw [h3, h3', this]
      subst e
      simp [thingOf, h3]
    · obtain ⟨i, _, e, _⟩ := h'.n h3'
      have := frz_odd h3 ((h.c h3).symm.trans e)
      rw [ho] at this
      cases this
  · by_cases h3' : o'.kind = 3
    · obtain ⟨i, _, e, _⟩ := h.n h3
      have := frz_odd h3' ((h'.c h3').symm.trans e)
      rw [ho'] at this
      cases this
    · obtain ⟨i, hi, e, q⟩ := h.n h3
      obtain ⟨i', hi', e', q'⟩ := h'.n h3'
      have := frz_inj (by omega) (by omega) (e.symm.trans e')
      subst this
      have qq := q.symm.trans q'
      unfold tagOf at qq
      by_cases h1 : o.kind = 1
      · by_cases h1' : o'.kind = 1
        · rw [if_pos h1, if_pos h1'] at qq
          injection qq with qq
          have e : o = o' := by
            obtain ⟨a, b⟩ := o
            obtain ⟨a', b'⟩ := o'
            simp only at h1 h1' qq
            rw [h1, h1', qq]
          subst e
          simp [thingOf, h1]
        · rw [if_pos h1, if_neg h1'] at qq
          cases qq
      · by_cases h1' : o'.kind = 1
        · rw [if_neg h1, if_pos h1'] at qq
          cases qq
        · rw [if_neg h1, if_neg h1'] at qq
          injection qq with qk qj
          have k2 : o.kind = 2 := by omega
          have k2' : o'.kind = 2 := by omega
          have e : o = o' := by
            have a1 := hb k2
            have a2 := hb' k2'
            obtain ⟨a, b⟩ := o
            obtain ⟨a', b'⟩ := o'
            simp only at k2 k2' a1 a2
            rw [k2, k2', a1, a2]
          subst e
          rw [qk, qj]
theorem clean_parts {r : Rule} (h : cleanR r = true) : (∀ l ∈ r.body, ∀ t ∈ l.atom.terms, oddC t = false) ∧ ∀ t ∈ r.head.terms, oddC t = false := by
  unfold cleanR at h
  rw [Bool.and_eq_true, List.all_eq_true] at h
  refine ⟨fun l hl t ht => ?_, fun t ht => ?_⟩
  · have := h.1 l hl
    rw [Bool.not_eq_true', List.any_eq_false] at this
    simpa using this t ht
  · have := h.2
    rw [Bool.not_eq_true', List.any_eq_false] at this
    simpa using this t ht
theorem const_eq {T : Nat → Tag} {σ : ByteArray → ByteArray} {k j : Nat} {o t : Term} {x : ByteArray} (h : Val T σ k j o x) (hx : x = t.text) (h3 : t.kind = 3) (ht : oddC t = false) : o = t := by
  by_cases k3 : o.kind = 3
  · have := (h.c k3).symm.trans hx
    obtain ⟨a, b⟩ := o
    obtain ⟨a', b'⟩ := t
    simp only at k3 h3 this
    rw [k3, h3, this]
  · obtain ⟨i, _, e, _⟩ := h.n k3
    have := frz_odd h3 (hx.symm.trans e)
    rw [ht] at this
    cases this
/-- The rule's own binding. -/
theorem own_derives {r : Rule} {T : Nat → Tag} {σ : ByteArray → ByteArray} {rows : List (List ByteArray)} {head : List ByteArray} {f : RelM} (hr : plain r = true) (hz : Froz r T σ rows head) (hf : BodyIn r rows f) : Derives r f head := by
  refine ⟨σ, fun l hl => ?_, ?_⟩
  · obtain ⟨k, hk⟩ := List.mem_iff_getElem?.1 hl
    obtain ⟨q, q1, q2, q3⟩ := hz.body k l hk
    exact ⟨q, (hf _ _).2 ⟨k, l, hk, rfl, q1⟩, q2, fun j t ht => ⟨(q3 j t ht).c, (q3 j t ht).v⟩⟩
  · apply List.ext_getElem?
    intro j
    rw [List.getElem?_map]
    cases ht : r.head.terms[j]? with
    | none =>
      rw [List.getElem?_eq_none_iff] at ht
      symm
      rw [Option.map_none, List.getElem?_eq_none_iff, hz.len]
      exact ht
    | some t =>
      have hj := (List.getElem?_eq_some_iff.1 ht).1
      have hg := gt_at (xs := head) (i := j) (by rw [hz.len]; exact hj)
      rw [hg]
      show some (valT σ t) = some (gt head j)
      congr 1
      unfold valT
      rcases K.plain_head hr t (List.mem_of_getElem? ht) with k | k
      · rw [if_neg (by omega)]
        exact ((hz.head j t ht).v k).symm
      · rw [if_pos k]
        exact ((hz.head j t ht).c k).symm
/-- What another rule lays onto the frozen body is a laying. -/
theorem derives_hom {r s : Rule} {T : Nat → Tag} {σ : ByteArray → ByteArray} {rows : List (List ByteArray)} {head : List ByteArray} {f : RelM} (hr : plain r = true) (hs : plain s = true) (cr : cleanR r = true) (cs : cleanR s = true) (hz : Froz r T σ rows head) (hf : BodyIn r rows f) (hp : r.head.pred = s.head.pred) (hl : r.head.terms.length = s.head.terms.length) (d : Derives s f head) : Hom r s := by
  obtain ⟨τ, d1, d2⟩ := d
  obtain ⟨cr1, cr2⟩ := clean_parts cr
  obtain ⟨cs1, cs2⟩ := clean_parts cs
  have hq : ∀ i : Nat, ∃ k : Nat, ∀ l, s.body[i]? = some l → ∃ l' q, r.body[k]? = some l' ∧ l'.atom.pred = l.atom.pred ∧ rows[k]? = some q ∧ MatchV τ l.atom.terms q := fun i => by
    cases hi : s.body[i]? with
    | none => exact ⟨0, fun l e => by cases e⟩
    | some l =>
      obtain ⟨q, q1, q2⟩ := d1 l (List.mem_of_getElem? hi)
      obtain ⟨k, l', k1, k2, k3⟩ := (hf _ _).1 q1
      exact ⟨k, fun l2 e => by cases e; exact ⟨l', q, k1, k2, k3, q2⟩⟩
  obtain ⟨h, hh⟩ : ∃ h : Nat → Nat, ∀ i l, s.body[i]? = some l → ∃ l' q, r.body[h i]? = some l' ∧ l'.atom.pred = l.atom.pred ∧ rows[h i]? = some q ∧ MatchV τ l.atom.terms q := ⟨fun i => (hq i).choose, fun i => (hq i).choose_spec⟩
  -- at one place of s: what lies there of r
  have at_ : ∀ i l j t, s.body[i]? = some l → l.atom.terms[j]? = some t → ∃ l' o x, r.body[h i]? = some l' ∧ l'.atom.terms[j]? = some o ∧ Val T σ (h i) j o x ∧ (t.kind = 3 → x = t.text) ∧ (t.kind = 1 → x = τ t.text) ∧ oddC o = false ∧ (o.kind = 1 ∨ o.kind = 2 ∨ o.kind = 3) ∧ (o.kind = 2 → o.text = ⟨#[]⟩) := by
    intro i l j t hi hj
    obtain ⟨l', q, e1, e2, e3, m1, m2⟩ := hh i l hi
    obtain ⟨q', g1, g2, g3⟩ := hz.body _ _ e1
    rw [e3] at g1
    cases g1
    have hjl := (List.getElem?_eq_some_iff.1 hj).1
    obtain ⟨o, ho⟩ : ∃ o, l'.atom.terms[j]? = some o := ⟨_, List.getElem?_eq_getElem (by omega)⟩
    have hlm := List.mem_of_getElem? e1
    have hom := List.mem_of_getElem? ho
    exact ⟨l', o, gt q j, e1, ho, g3 j o ho, (m2 j t hj).1, (m2 j t hj).2, cr1 l' hlm o hom, K.plain_body hr l' hlm o hom, may_blank (((plain_terms hr).2.2 l' hlm).2 o hom)⟩
  let Occ : ByteArray → Thing → Prop := fun v th => ∃ (i : Nat) (l : K.Lit) (j : Nat) (t : Term) (l' : K.Lit) (o : Term), s.body[i]? = some l ∧ l.atom.terms[j]? = some t ∧ t.kind = 1 ∧ t.text = v ∧ r.body[h i]? = some l' ∧ l'.atom.terms[j]? = some o ∧ th = thingOf o (h i : Nat) j
  have uniq : ∀ v th k j (o : Term), Occ v th → Val T σ k j o (τ v) → oddC o = false → (o.kind = 1 ∨ o.kind = 2 ∨ o.kind = 3) → (o.kind = 2 → o.text = ⟨#[]⟩) → th = thingOf o (k : Nat) j := by
    rintro v th k j o ⟨i, l, j', t, l', o', h1, h2, h3, rfl, h5, h6, rfl⟩ hv ho hk hb
    obtain ⟨l2, o2, x, g1, g2, g3, _, g5, g6, g7, g8⟩ := at_ i l j' t h1 h2
    rw [h5] at g1
    cases g1
    rw [h6] at g2
    cases g2
    rw [g5 h3] at g3
    exact val_same g3 hv g6 ho g7 hk g8 hb
  obtain ⟨M, hM⟩ : ∃ M : TMap, ∀ v th, Occ v th → ∃ th', M v = some th' ∧ Occ v th' := by
    classical
    refine ⟨fun v => if q : ∃ th, Occ v th then some q.choose else none, fun v th q => ?_⟩
    have q' : ∃ th, Occ v th := ⟨th, q⟩
    exact ⟨q'.choose, dif_pos q', q'.choose_spec⟩
  refine ⟨M, h, ⟨⟨hp.symm, hl.symm⟩, fun j t o ht ho => ?_⟩, fun i l hi => ?_⟩
  · have hv := hz.head j o ho
    have hx : gt head j = valT τ t := by
      rw [← d2]
      unfold gt
      rw [List.getElem?_map, ht]
      rfl
    rw [Nat.zero_add]
    have hom := List.mem_of_getElem? ho
    refine ⟨fun h3 => const_eq hv (by rw [hx]; unfold valT; rw [if_pos h3]) h3 (cs2 t (List.mem_of_getElem? ht)), fun h1 => ?_⟩
    have hx1 : gt head j = τ t.text := by rw [hx]; unfold valT; rw [if_neg (by omega)]
    obtain ⟨l, hlm, t', ht', k', e'⟩ := head_var hs (List.mem_of_getElem? ht) h1
    obtain ⟨i, hi⟩ := List.mem_iff_getElem?.1 hlm
    obtain ⟨j', hj'⟩ := List.mem_iff_getElem?.1 ht'
    obtain ⟨l2, o2, x, g1, g2, _⟩ := at_ i l j' t' hi hj'
    obtain ⟨th', m1, m2⟩ := hM t.text _ ⟨i, l, j', t', l2, o2, hi, hj', k', e', g1, g2, rfl⟩
    have kh := K.plain_head hr o hom
    have := uniq _ _ 0 j o m2 (by rw [← hx1]; exact hv) (cr2 o hom) (by omega) (fun k => by omega)
    rw [m1, this]
    congr 1
    have k2 : ¬ o.kind = 2 := by omega
    simp [thingOf, k2]
  · obtain ⟨l', q, e1, e2, e3, m1, m2⟩ := hh i l hi
    obtain ⟨q', g1, g2, g3⟩ := hz.body _ _ e1
    rw [e3] at g1
    cases g1
    refine ⟨l', e1, ⟨e2.symm, by omega⟩, fun j t o ht ho => ?_⟩
    rw [Nat.zero_add]
    obtain ⟨l2, o2, x, a1, a2, a3, a4, a5, a6, a7, a8⟩ := at_ i l j t hi ht
    rw [e1] at a1
    cases a1
    rw [ho] at a2
    cases a2
    refine ⟨fun h3 => const_eq a3 (a4 h3) h3 (cs1 l (List.mem_of_getElem? hi) t (List.mem_of_getElem? ht)), fun h1 => ?_⟩
    obtain ⟨th', m1', m2'⟩ := hM t.text _ ⟨i, l, j, t, l', o, hi, ht, h1, rfl, e1, ho, rfl⟩
    rw [m1']
    congr 1
    exact uniq _ _ (h i) j o m2' (by rw [← a5 h1]; exact a3) a6 a7 a8
/-- The frozen body tells it. -/
theorem frozen_law {r s : Rule} {T : Nat → Tag} {σ : ByteArray → ByteArray} {rows : List (List ByteArray)} {head : List ByteArray} {f : RelM} (hr : plain r = true) (hs : plain s = true) (cr : cleanR r = true) (cs : cleanR s = true) (hz : Froz r T σ rows head) (hf : BodyIn r rows f) (hp : r.head.pred = s.head.pred) (hl : r.head.terms.length = s.head.terms.length) : Derives s f head ↔ Hom r s :=
  ⟨derives_hom hr hs cr cs hz hf hp hl, fun h => hom_derives hr hs h (own_derives hr hz hf)⟩
end Go.Proofs.YtpgbenijjodoeaaGreat
namespace Go.Proofs.YtpgbenijjodoeaaGreat
open Go.ChangeShapes Go.WideShapes Go.ChangeAt Go.RowKit
open K (Term Atom Rule TermsAt LitsAt RuleV termAt litAt)
def updM (f : ByteArray → Option ByteArray) (k : ByteArray) (v : ByteArray) : ByteArray → Option ByteArray := fun x => if x = k then some v else f x
/-- A term, frozen: the names so far, how many, the text. -/
def frT (m : ByteArray → Option ByteArray) (n : Nat) (t : Term) : (ByteArray → Option ByteArray) × Nat × ByteArray :=
  if t.kind = 3 then (m, n, t.text)
  else if t.kind = 1 then
    match m t.text with
    | some x => (m, n, x)
    | none => (updM m t.text (frz (n + 1)), n + 1, frz (n + 1))
  else (m, n + 1, frz (n + 1))
abbrev frV (m : ByteArray → Option ByteArray) : ByteArray → Option Value := fun k => (m k).map Value.string
structure FzSt (w : World) (pn pc mb : Nat) (m : ByteArray → Option ByteArray) (n : Nat) : Prop where
  c0 : w.cell? ⟨pn, 0, none⟩ = some (.map (some mb))
  c1 : w.cell? ⟨pc, 0, none⟩ = some (.int .i64 (n : Nat))
  fr : w.frozen? ⟨pc, 0, none⟩ = false
  map : K.SMap w mb (frV m)
  ty : Ty w pc 3
  ne : ∀ v x, m v = some x → (x == ⟨#[]⟩) = false
theorem FzSt.ext {w w' : World} {pn pc mb n : Nat} {m : ByteArray → Option ByteArray} (h : FzSt w pn pc mb m n) (e : Ext w w') : FzSt w' pn pc mb m n :=
  ⟨keep e h.c0, keep e h.c1, (e.frozen (p := ⟨pc, 0, none⟩) (World.block_lt_of_cell? w ⟨pc, 0, none⟩ h.c1)).trans h.fr, h.map.ext e, h.ty.ext e, h.ne⟩
theorem frV_upd (m : ByteArray → Option ByteArray) (k x : ByteArray) : K.upd (frV m) k (some (.string x)) = frV (updM m k x) := by
  funext y
  by_cases h : y = k <;> simp [K.upd, frV, updM, h]
theorem zero_str (w : World) : (zeroValue 9).run Tryz.prog w = .ok (.string ⟨#[]⟩) w := by kernel_rfl
theorem frz_ne (n : Nat) : (frz n == ⟨#[]⟩) = false := by
  rw [beq_eq_false_iff_ne]
  intro h
  have := congrArg ByteArray.size h
  cases this
theorem FzSt.ne_pc {w : World} {pn pc mb n : Nat} {m : ByteArray → Option ByteArray} (h : FzSt w pn pc mb m n) : pc ≠ mb ∧ pn ≠ mb := ⟨fun e => by
  obtain ⟨es, clock, h1, _⟩ := h.map
  have := h.c1
  simp [World.cell?, e, h1] at this, fun e => by
  obtain ⟨es, clock, h1, _⟩ := h.map
  have := h.c0
  simp [World.cell?, e, h1] at this⟩
theorem FzSt.ne_pn {w : World} {pn pc mb n : Nat} {m : ByteArray → Option ByteArray} (h : FzSt w pn pc mb m n) : pn ≠ pc := fun e => by
  have h1 := h.c0
  rw [e, h.c1] at h1
  cases h1
/-- The count turns. -/
theorem FzSt.count {w : World} {pn pc mb n : Nat} {m : ByteArray → Option ByteArray} (h : FzSt w pn pc mb m n) (k : Nat) : FzSt (w.setCell ⟨pc, 0, none⟩ (.int .i64 (k : Nat))) pn pc mb m k :=
  ⟨by rw [World.cell?_setCell_other _ _ _ _ (by intro e; injection e with e; exact h.ne_pn e.symm)]; exact h.c0, World.cell?_setCell_same _ _ _ h.c1, by rw [World.frozen?_setCell]; exact h.fr, by
    obtain ⟨es, clock, h1, h2, h3⟩ := h.map
    have e : ButS (fun b => b = pc) w (w.setCell ⟨pc, 0, none⟩ (.int .i64 (k : Nat))) := (ButS.refl (fun b => b = pc) w).set (.inl rfl) _ _
    exact ⟨es, clock, by rw [e.block mb (Array.getElem?_eq_some_iff.1 h1).1 (fun q => h.ne_pc.1 q.symm)]; exact h1, h2, h3⟩, by
    obtain ⟨cs, x, q⟩ := h.ty
    obtain ⟨cs', q'⟩ := typ_setCell q 0 (.int .i64 (k : Nat))
    exact ⟨cs', x, q'⟩, h.ne⟩
theorem FzSt.put {w : World} {pn pc mb n : Nat} {m : ByteArray → Option ByteArray} (h : FzSt w pn pc mb m n) {o : Obj} {k x : ByteArray} (hm : K.SMap (K.setMap w mb o) mb (K.upd (frV m) k (some (.string x)))) (hx : (x == ⟨#[]⟩) = false) : FzSt (K.setMap w mb o) pn pc mb (updM m k x) n :=
  ⟨(K.setMap_cell h.map _ h.c0), (K.setMap_cell h.map _ h.c1), by
    have := h.fr
    unfold World.frozen? at this ⊢
    simp only at this ⊢
    rw [(K.setMap_grown w mb o).block pc (World.block_lt_of_cell? w ⟨pc, 0, none⟩ h.c1) (by intro e; exact h.ne_pc.1 (Option.some.inj e))]
    exact this, by rw [← frV_upd]; exact hm, by
    obtain ⟨cs, y, q⟩ := h.ty
    exact ⟨cs, y, ((K.setMap_grown w mb o).block pc h.ty.lt (by intro e; exact h.ne_pc.1 (Option.some.inj e))).trans q⟩, fun v y hy => by
    unfold updM at hy
    split at hy
    · cases hy; exact hx
    · exact h.ne v y hy⟩
abbrev FzB (pc mb : Nat) : Nat → Prop := fun b => b = pc ∨ b = mb
def FzPost (t : Term) (m : ByteArray → Option ByteArray) (n pn pc mb : Nat) (w : World) (e : Ending) (w' : World) : Prop := e = .returned (.string (frT m n t).2.2) ∧ FzSt w' pn pc mb (frT m n t).1 (frT m n t).2.1 ∧ ButS (FzB pc mb) w w'
theorem but_map {w x : World} {pc mb : Nat} (h : ButS (FzB pc mb) w x) (o : Obj) : ButS (FzB pc mb) w (K.setMap x mb o) := h.grown (K.setMap_grown x mb o) (fun _ hb => .inl (.inr (Option.some.inj hb).symm))
set_option maxRecDepth 100000 in
theorem c_is (t : Term) (m : ByteArray → Option ByteArray) (n pn pc mb : Nat) (w : World) (h : FzSt w pn pc mb m n) (hn : n < 100000) : Calls Tryz.prog 35 #[.agg #[.int .i64 t.kind, .string t.text], .pointer (some ⟨pn, 0, none⟩), .pointer (some ⟨pc, 0, none⟩)] w (FzPost t m n pn pc mb w) := by
  obtain ⟨b3, e3⟩ : ∃ b, (t.kind == 3) = b := ⟨_, rfl⟩
  obtain ⟨b1, e1⟩ : ∃ b, (t.kind == 1) = b := ⟨_, rfl⟩
  have K3 : Hid ((t.kind = 3) ↔ b3 = true) := by show _ ↔ _; rw [← e3]; simp
  have K1 : Hid ((t.kind = 1) ↔ b1 = true) := by show _ ↔ _; rw [← e1]; simp
  obtain ⟨w1, hw1⟩ : ∃ w1, w1 = w.alloc (.cells #[.int .i64 t.kind, .string t.text] 53) := ⟨_, rfl⟩
  have E1 : Ext w w1 := by rw [hw1]; exact ext_alloc (Below.refl _ _) _
  have B1 : Hid (ButS (FzB pc mb) w w1) := (ButS.refl (FzB pc mb) w).ext E1
  have H := Lib.hid (h.ext E1)
  have q0 : w1.cell? ⟨w.heap.size, 0, none⟩ = some (.int .i64 t.kind) := by rw [hw1]; go_simp
  have q1 : w1.cell? ⟨w.heap.size, 1, none⟩ = some (.string t.text) := by rw [hw1]; go_simp
  have hl := K.run_look (P := Tryz.prog) (t := 84) H.out.map Tryz.underlying84 Tryz.underlying9 (zero_str _) t.text false
  simp only [Bool.false_eq_true, if_false, frV] at hl
  have x0 := H.out.c0
  have x1 := H.out.c1
  have x2 := H.out.fr
  have hne := Lib.hid h.ne
  have HPC : Hid (w.heap.size ≠ pc) := by intro e; have := World.block_lt_of_cell? w ⟨pc, 0, none⟩ h.c1; rw [← e] at this; exact Nat.lt_irrefl _ this
  clear h E1
  subst hw1
  cases b3 with
  | true =>
    have e : Hid (frT m n t = (m, n, t.text)) := by show _ = _; unfold frT; rw [if_pos (K3.out.2 rfl)]
    go_enter Tryz.func35, Tryz.ntmps35
    go_wp2
    go_returns
    unfold FzPost
    rw [e.out]
    exact ⟨rfl, H.out, B1.out⟩
  | false =>
    have C2 : Hid (FzSt ((w.alloc (.cells #[.int .i64 t.kind, .string t.text] 53)).setCell ⟨pc, 0, none⟩ (.int .i64 ((n : Int) + 1))) pn pc mb m (n + 1) ∧ ButS (FzB pc mb) w ((w.alloc (.cells #[.int .i64 t.kind, .string t.text] 53)).setCell ⟨pc, 0, none⟩ (.int .i64 ((n : Int) + 1)))) := by
      have := H.out.count (n + 1)
      rw [show ((n + 1 : Nat) : Int) = (n : Int) + 1 by omega] at this
      exact ⟨this, B1.out.set (.inl (.inl rfl)) _ _⟩
    have TX : Hid (∀ W, Calls Tryz.prog 36 #[.int .i64 ((n : Int) + 1)] W fun e w' => e = .returned (.string (frz (n + 1))) ∧ Ext W w') := fun W => by
      have := c_text (n + 1) W
      rwa [show ((n + 1 : Nat) : Int) = (n : Int) + 1 by omega] at this
    obtain ⟨W2, hW2⟩ : ∃ W2, (w.alloc (.cells #[.int .i64 t.kind, .string t.text] 53)).setCell ⟨pc, 0, none⟩ (.int .i64 ((n : Int) + 1)) = W2 := ⟨_, rfl⟩
    have d0 : W2.cell? ⟨w.heap.size, 0, none⟩ = some (.int .i64 t.kind) := by rw [← hW2, World.cell?_setCell_other _ _ _ _ (by intro e; injection e with e; exact HPC.out (by first | exact e | exact e.symm))]; exact q0
    have d1 : W2.cell? ⟨w.heap.size, 1, none⟩ = some (.string t.text) := by rw [← hW2, World.cell?_setCell_other _ _ _ _ (by intro e; injection e with e; exact HPC.out (by first | exact e | exact e.symm))]; exact q1
    rw [hW2] at C2
    have d2 := C2.out.1.c1
    have d3 := C2.out.1.c0
    rw [show ((n + 1 : Nat) : Int) = (n : Int) + 1 by omega] at d2
    cases b1 with
    | false =>
      have e : Hid (frT m n t = (m, n + 1, frz (n + 1))) := by show _ = _; unfold frT; rw [if_neg (fun q => by have := K3.out.1 q; cases this), if_neg (fun q => by have := K1.out.1 q; cases this)]
      clear hl
      go_enter Tryz.func35, Tryz.ntmps35
      go_wp2_with (go_at_call 36; (with_reducible refine (TX.out _).mono ?_); rintro e w4 ⟨rfl, e4⟩)
      go_returns
      unfold FzPost
      rw [e.out]
      exact ⟨rfl, C2.out.1.ext e4, C2.out.2.ext e4⟩
    | true =>
      cases hmt : m t.text with
      | some x =>
        have e : Hid (frT m n t = (m, n, x)) := by show _ = _; unfold frT; rw [if_neg (fun q => by have := K3.out.1 q; cases this), if_pos (K1.out.2 rfl), hmt]
        have hx := hne.out _ _ hmt
        have hx2 : x.toList.isEmpty = false := (text_full x).2 (by simpa using hx)
        rw [hmt] at hl
        clear hmt d0 d1 d2 d3
        have hl : (Instr.lookup 84 (.map (some mb)) (.string t.text) false).run Tryz.prog (w.alloc (.cells #[.int .i64 t.kind, .string t.text] 53)) = .ok (.string x) (w.alloc (.cells #[.int .i64 t.kind, .string t.text] 53)) := hl
        go_enter Tryz.func35, Tryz.ntmps35
        go_wp2
        go_returns
        unfold FzPost
        rw [e.out]
        exact ⟨rfl, H.out, B1.out⟩
      | none =>
        have e : Hid (frT m n t = (updM m t.text (frz (n + 1)), n + 1, frz (n + 1))) := by show _ = _; unfold frT; rw [if_neg (fun q => by have := K3.out.1 q; cases this), if_pos (K1.out.2 rfl), hmt]
        rw [hmt] at hl
        clear hmt
        have hl : (Instr.lookup 84 (.map (some mb)) (.string t.text) false).run Tryz.prog (w.alloc (.cells #[.int .i64 t.kind, .string t.text] 53)) = .ok (.string ⟨#[]⟩) (w.alloc (.cells #[.int .i64 t.kind, .string t.text] 53)) := hl
        go_enter Tryz.func35, Tryz.ntmps35
        go_wp2
        go_cut [33] (fun _ wc => FzSt wc pn pc mb (updM m t.text (frz (n + 1))) (n + 1) ∧ ButS (FzB pc mb) w wc)
        case first =>
          have hd2 : Ext W2 W2 := Below.refl _ _
          go_region_held3 (fun w' => w'.cell? ⟨pn, 0, none⟩ = some (.map (some mb)) ∧ w'.cell? ⟨w.heap.size, 1, none⟩ = some (.string t.text) ∧ w'.cell? ⟨pc, 0, none⟩ = some (.int .i64 ((n : Int) + 1)))
            ((refine ⟨?_, ?_, ?_⟩ <;> repeat (first | (with_reducible assumption) | (with_reducible rw [World.cell?_drew]))))
            (first
              | (go_at_call 36; (with_reducible refine (TX.out _).mono ?_); rintro e4 w4 ⟨rfl, x4⟩; have F4 := C2.out.1.ext (ext_after x4 (by repeat (with_reducible (first | exact hd2 | apply ext_drew)))); have B4 := C2.out.2.ext (ext_after x4 (by repeat (with_reducible (first | exact hd2 | apply ext_drew)))); have g0 := F4.c0; have g1 := keep (ext_after x4 (by repeat (with_reducible (first | exact hd2 | apply ext_drew)))) d1; have g2 := F4.c1; rw [show ((n + 1 : Nat) : Int) = (n : Int) + 1 by omega] at g2; obtain ⟨o, hrun, hsm⟩ := K.run_upd (P := Tryz.prog) (t := 84) F4.map Tryz.underlying84 Tryz.underlying9 t.text (.string (frz (n + 1))); have F5 := F4.put hsm (frz_ne _); have B5 := but_map B4 o; have c5 := F5.c1; rw [show ((n + 1 : Nat) : Int) = (n : Int) + 1 by omega] at c5; have c6 := F5.c0; have c7 := K.setMap_cell (o := o) F4.map _ g1; clear hsm)
              | fail)
          all_goals
            go_wp2
            go_meet
            exact ⟨F5, B5⟩
        case rest =>
          obtain ⟨F5, B5⟩ := hcut
          have c5 := F5.c1
          rw [show ((n + 1 : Nat) : Int) = (n : Int) + 1 by omega] at c5
          go_wp2_with (go_at_call 36; (with_reducible refine (TX.out _).mono ?_); rintro e6 w6 ⟨rfl, x6⟩)
          go_returns
          unfold FzPost
          rw [e.out]
          exact ⟨rfl, F5.ext x6, B5.ext x6⟩
end Go.Proofs.YtpgbenijjodoeaaGreat
