/- What a rule brings over a base, said by values of its variables. -/
import Derived.Test.YtpgbenijjodoeaaGreatG44
namespace Go.Proofs.YtpgbenijjodoeaaGreat
open K (Term Atom Rule)
/-- A row fits terms, by values of the variables. -/
def MatchV (σ : ByteArray → ByteArray) (ts : List Term) (q : List ByteArray) : Prop := q.length = ts.length ∧ ∀ j t, ts[j]? = some t → (t.kind = 3 → gt q j = t.text) ∧ (t.kind = 1 → gt q j = σ t.text)
def valT (σ : ByteArray → ByteArray) (t : Term) : ByteArray := if t.kind = 3 then t.text else σ t.text
/-- What a rule brings. -/
def Derives (r : Rule) (f : RelM) (y : List ByteArray) : Prop := ∃ σ, (∀ l ∈ r.body, ∃ q ∈ rowsIn f l.atom.pred, MatchV σ l.atom.terms q) ∧ r.head.terms.map (valT σ) = y
def sig (names x : List ByteArray) (v : ByteArray) : ByteArray := gt x (idxB names v).toNat
theorem idxB_gt {names : List ByteArray} (hn : names.Nodup) {v : Nat} (hv : v < names.length) : idxB names (gt names v) = (v : Int) := by
  refine idxB_at (gt_at hv) fun j y hj hy e => ?_
  have hjl := (List.getElem?_eq_some_iff.1 hy).1
  have q := List.pairwise_iff_getElem.1 hn j v hjl hv hj
  have h1 := gt_at hv
  rw [List.getElem?_eq_getElem hv] at h1
  rw [List.getElem?_eq_getElem hjl] at hy
  exact q ((Option.some.inj hy).trans (e.symm.trans (Option.some.inj h1).symm))
theorem varT_of {t : Term} (h : t.kind = 1) : varT t.text = t := by
  obtain ⟨k, s⟩ := t
  cases h
  rfl
theorem fitsT_iff (ts : List Term) (q : List ByteArray) : fitsT ts q = true ↔ ∀ j t, ts[j]? = some t → (t.kind = 3 → gt q j = t.text) ∧ (t.kind = 1 → gt q (idxT ts t).toNat = gt q j) := by
  unfold fitsT
  rw [List.all_eq_true]
  constructor
  · intro h j t ht
    have hj := (List.getElem?_eq_some_iff.1 ht).1
    have := h j (List.mem_range.2 hj)
    unfold fitAt at this
    rw [ht] at this
    simp only [Bool.not_eq_true', Bool.or_eq_false_iff, Bool.and_eq_false_iff, decide_eq_false_iff_not, Bool.not_eq_false', decide_eq_true_eq] at this
    exact ⟨fun h3 => this.1.resolve_left (fun n => n h3), fun h1 => this.2.resolve_left (fun n => n h1)⟩
  · intro h j hj
    unfold fitAt
    cases ht : ts[j]? with
    | none => rfl
    | some t =>
      obtain ⟨h3, h1⟩ := h j t ht
      simp only [Bool.not_eq_true', Bool.or_eq_false_iff, Bool.and_eq_false_iff, decide_eq_false_iff_not, Bool.not_eq_false', decide_eq_true_eq]
      exact ⟨by by_cases k : t.kind = 3; exact .inr (h3 k); exact .inl k, by by_cases k : t.kind = 1; exact .inr (h1 k); exact .inl k⟩
theorem laysTo_iff {names : List ByteArray} (hn : names.Nodup) {ts : List Term} (hv : ∀ t ∈ ts, t.kind = 1 → t.text ∈ names) (x q : List ByteArray) : LaysTo names ts q ((tVars names ts).map (gt x)) ↔ MatchV (sig names x) ts q := by
  unfold LaysTo MatchV
  rw [fitsT_iff]
  have hout : outT names ts (tVars names ts) q = (tVars names ts).map (gt x) ↔ ∀ v ∈ tVars names ts, gt q (idxT ts (varT (gt names v))).toNat = gt x v := by
    unfold outT
    exact List.map_inj_left
  rw [hout]
  constructor
  · rintro ⟨h1, h2, h3⟩
    refine ⟨h1, fun j t ht => ⟨(h2 j t ht).1, fun hk => ?_⟩⟩
    have htm := List.mem_of_getElem? ht
    obtain ⟨k, hk1, hk2⟩ := idxB_mem (hv t htm hk)
    have hkl := (List.getElem?_eq_some_iff.1 hk2).1
    have hg : gt names k = t.text := by unfold gt; rw [hk2]; rfl
    have hmv : k ∈ tVars names ts := tVars_mem.2 ⟨hkl, by rw [hg, varT_of hk]; exact htm⟩
    have := h3 k hmv
    rw [hg, varT_of hk] at this
    rw [← (h2 j t ht).2 hk, this]
    unfold sig
    rw [hk1]
    rfl
  · rintro ⟨h1, h2⟩
    have key : ∀ t ∈ ts, t.kind = 1 → gt q (idxT ts t).toNat = sig names x t.text := fun t ht hk => by
      obtain ⟨k, e1, e2⟩ := idxT_mem ht
      rw [e1]
      exact (h2 k t e2).2 hk
    refine ⟨h1, fun j t ht => ⟨(h2 j t ht).1, fun hk => ?_⟩, fun v hvm => ?_⟩
    · rw [key t (List.mem_of_getElem? ht) hk, (h2 j t ht).2 hk]
    · obtain ⟨hvl, hvt⟩ := tVars_mem.1 hvm
      rw [key _ hvt rfl]
      unfold sig
      rw [show (varT (gt names v)).text = gt names v from rfl, idxB_gt hn hvl]
      rfl
theorem sig_map (names : List ByteArray) (σ : ByteArray → ByteArray) {v : ByteArray} (h : v ∈ names) : sig names (names.map σ) v = σ v := by
  obtain ⟨k, e1, e2⟩ := idxB_mem h
  unfold sig gt
  rw [e1]
  simp [e2]
theorem MatchV.congr {σ τ : ByteArray → ByteArray} {ts : List Term} {q : List ByteArray} (h : MatchV σ ts q) (e : ∀ t ∈ ts, t.kind = 1 → σ t.text = τ t.text) : MatchV τ ts q :=
  ⟨h.1, fun j t ht => ⟨(h.2 j t ht).1, fun hk => ((h.2 j t ht).2 hk).trans (e t (List.mem_of_getElem? ht) hk)⟩⟩
theorem body_vars {r : Rule} {l : K.Lit} (hl : l ∈ r.body) (hk : l.kind = 1) : ∀ t ∈ l.atom.terms, t.kind = 1 → t.text ∈ varsR r := fun t ht h1 => (varsR_mem r t.text).2 ⟨l, hl, hk, by rw [varT_of h1]; exact ht⟩
/-- The rows that Facts answers. -/
theorem derives_iff {r : Rule} {f : RelM} (hpos : ∀ l ∈ r.body, l.kind = 1) (hchk : checkR r = 0) (hagg : r.head.terms.any aggT = false) (y : List ByteArray) : (∃ x, BindOk r f x ∧ headRow r x = y) ↔ Derives r f y := by
  have nd := varsR_nodup r
  constructor
  · rintro ⟨x, ⟨_, h2⟩, h3⟩
    refine ⟨sig (varsR r) x, fun l hl => ?_, ?_⟩
    · obtain ⟨q, hq, hm⟩ := h2 l hl
      exact ⟨q, hq, (laysTo_iff nd (body_vars hl (hpos l hl)) x q).1 hm⟩
    · rw [headRow_eq hchk hagg] at h3
      exact h3
  · rintro ⟨σ, h1, h2⟩
    refine ⟨(varsR r).map σ, ⟨by simp, fun l hl => ?_⟩, ?_⟩
    · obtain ⟨q, hq, hm⟩ := h1 l hl
      exact ⟨q, hq, (laysTo_iff nd (body_vars hl (hpos l hl)) _ q).2 (hm.congr fun t ht hk => (sig_map _ σ (body_vars hl (hpos l hl) t ht hk)).symm)⟩
    · rw [headRow_eq hchk hagg, ← h2]
      refine List.map_congr_left fun t ht => ?_
      unfold headAt valT
      rcases head_kinds hchk hagg ht with hk | ⟨hk, hm⟩
      · rw [if_pos hk, if_pos hk]
      · rw [if_neg (by omega), if_neg (by omega)]
        exact sig_map _ σ hm
end Go.Proofs.YtpgbenijjodoeaaGreat
