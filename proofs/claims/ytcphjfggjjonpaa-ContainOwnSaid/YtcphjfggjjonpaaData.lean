/- How terms, atoms, literals and rules lie in memory. No conditions but those of each lemma. -/
import Derived.Test.YtcphjfggjjonpaaRows
import Derived.Test.YtcphjfggjjonpaaMem
import Derived.Test.YtcphjfggjjonpaaSpec
namespace Go.Proofs.Ytcphjfggjjonpaa
open Go.RowKit

def SliceAt {α : Type} (E : World → Nat → Nat → α → Prop) (size : Nat) (w : World) (a : Option Addr) (n : Nat) (xs : List α) : Prop :=
  xs.length = n ∧ ∀ i x, xs[i]? = some x → ∃ b off, a = some ⟨b, off, none⟩ ∧ E w b (off + i * size) x
theorem SliceAt.keep {α : Type} {E : World → Nat → Nat → α → Prop} {size : Nat} {W w : World} {a : Option Addr} {n : Nat} {xs : List α}
    (hE : ∀ b o x, E W b o x → E w b o x) (h : SliceAt E size W a n xs) : SliceAt E size w a n xs :=
  ⟨h.1, fun i x hx => let ⟨b, off, h1, h2⟩ := h.2 i x hx; ⟨b, off, h1, hE _ _ _ h2⟩⟩
theorem SliceAt.at {α : Type} {E : World → Nat → Nat → α → Prop} {size : Nat} {w : World} {a : Option Addr} {n : Nat} {xs : List α}
    (h : SliceAt E size w a n xs) {i : Nat} (hi : i < n) : ∃ x b off, xs[i]? = some x ∧ a = some ⟨b, off, none⟩ ∧ E w b (off + i * size) x := by
  have hi' : i < xs.length := by rw [h.1]; exact hi
  obtain ⟨b, off, h1, h2⟩ := h.2 i xs[i] (List.getElem?_eq_getElem hi')
  exact ⟨xs[i], b, off, List.getElem?_eq_getElem hi', h1, h2⟩

def termAt (w : World) (b o : Nat) (t : Term) : Prop :=
  w.cell? ⟨b, o, none⟩ = some (.int .i64 t.kind) ∧ w.cell? ⟨b, o + 1, none⟩ = some (.string t.text) ∧ t.text.size ≤ maxLen
theorem termAt.keep {W w : World} (hb : Ext W w) {b o : Nat} {t : Term} (h : termAt W b o t) : termAt w b o t :=
  ⟨Ytcphjfggjjonpaa.keep hb h.1, Ytcphjfggjjonpaa.keep hb h.2.1, h.2.2⟩
def TermsAt (w : World) (a : Option Addr) (n : Nat) (ts : List Term) : Prop := n ≤ 5864062014634 ∧ SliceAt termAt 2 w a n ts
theorem TermsAt.keep {W w : World} (hb : Ext W w) {a : Option Addr} {n : Nat} {ts : List Term} (h : TermsAt W a n ts) : TermsAt w a n ts :=
  ⟨h.1, h.2.keep fun _ _ _ => termAt.keep hb⟩

/-- A slice's capacity holds its length; a nil slice has none. -/
def capOk (a : Option Addr) (n cap : Nat) : Prop := n ≤ cap ∧ (a = none → n = 0 ∧ cap = 0)
def litAt (w : World) (b o : Nat) (l : Lit) : Prop :=
  ∃ (a : Option Addr) (n cap : Nat), w.cell? ⟨b, o, none⟩ = some (.int .i64 l.kind) ∧ w.cell? ⟨b, o + 1, none⟩ = some (.string l.atom.pred) ∧
    w.cell? ⟨b, o + 2, none⟩ = some (.slice a n cap) ∧ w.cell? ⟨b, o + 3, none⟩ = some (.int .i64 l.op) ∧
    w.cell? ⟨b, o + 4, none⟩ = some (.int .i64 l.left.kind) ∧ w.cell? ⟨b, o + 5, none⟩ = some (.string l.left.text) ∧
    w.cell? ⟨b, o + 6, none⟩ = some (.int .i64 l.right.kind) ∧ w.cell? ⟨b, o + 7, none⟩ = some (.string l.right.text) ∧
    TermsAt w a n l.atom.terms ∧ capOk a n cap ∧ l.atom.pred.size ≤ maxLen ∧ l.left.text.size ≤ maxLen ∧ l.right.text.size ≤ maxLen
theorem litAt.keep {W w : World} (hb : Ext W w) {b o : Nat} {l : Lit} (h : litAt W b o l) : litAt w b o l := by
  obtain ⟨a, n, cap, h0, h1, h2, h3, h4, h5, h6, h7, h8, h9⟩ := h
  exact ⟨a, n, cap, Ytcphjfggjjonpaa.keep hb h0, Ytcphjfggjjonpaa.keep hb h1, Ytcphjfggjjonpaa.keep hb h2, Ytcphjfggjjonpaa.keep hb h3, Ytcphjfggjjonpaa.keep hb h4, Ytcphjfggjjonpaa.keep hb h5, Ytcphjfggjjonpaa.keep hb h6, Ytcphjfggjjonpaa.keep hb h7, h8.keep hb, h9⟩
def LitsAt (w : World) (a : Option Addr) (n : Nat) (ls : List Lit) : Prop := n ≤ 1353245080303 ∧ SliceAt litAt 8 w a n ls
theorem LitsAt.keep {W w : World} (hb : Ext W w) {a : Option Addr} {n : Nat} {ls : List Lit} (h : LitsAt W a n ls) : LitsAt w a n ls :=
  ⟨h.1, h.2.keep fun _ _ _ => litAt.keep hb⟩

/-- The value of a rule, and what it holds. -/
structure RuleV (w : World) (r : Rule) (ah : Option Addr) (nh ch : Nat) (ab : Option Addr) (nb cb : Nat) : Prop where
  pred : r.head.pred.size ≤ maxLen
  terms : TermsAt w ah nh r.head.terms
  body : LitsAt w ab nb r.body
  hcap : capOk ah nh ch
  bcap : capOk ab nb cb
theorem RuleV.keep {W w : World} (hb : Ext W w) {r : Rule} {ah : Option Addr} {nh ch : Nat} {ab : Option Addr} {nb cb : Nat} (h : RuleV W r ah nh ch ab nb cb) : RuleV w r ah nh ch ab nb cb :=
  ⟨h.pred, h.terms.keep hb, h.body.keep hb, h.hcap, h.bcap⟩

theorem beq_bytes (a b : ByteArray) : (a.toList == b.toList) = decide (a = b) := by
  rw [Bool.eq_iff_iff, beq_iff_eq, decide_eq_true_eq, toList_eq_iff]
  obtain ⟨⟨x⟩⟩ := b
  rw [ByteArray.toList_eq]
/-- Two terms, part by part, are one. -/
def termEq (k : Int) (s : ByteArray) (k' : Int) (s' : ByteArray) : Bool := decide (k = k' ∧ s = s')
theorem termEq_iff (t t' : Term) : termEq t.kind t.text t'.kind t'.text = decide (t = t') := by
  obtain ⟨k, s⟩ := t
  obtain ⟨k', s'⟩ := t'
  simp [termEq]
theorem eql_term (k k' : Int) (s s' : ByteArray) (w : World) : (binOp .eql 37 (.agg #[.int .i64 k, .string s]) (.agg #[.int .i64 k', .string s'])).run Try.prog w = .ok (.bool (termEq k s k' s')) w := by
  have e := toList_eq_iff s s'.toList
  have e2 : (⟨s'.toList.toArray⟩ : ByteArray) = s' := ((toList_eq_iff s' s'.toList).1 rfl).symm
  rw [e2] at e
  simp only [go_sem]
  simp [go_sem]
  by_cases h : k = k' <;> by_cases h2 : s = s' <;> simp [termEq, h, h2, e]
theorem neq_term (k k' : Int) (s s' : ByteArray) (w : World) : (binOp .neq 37 (.agg #[.int .i64 k, .string s]) (.agg #[.int .i64 k', .string s'])).run Try.prog w = .ok (.bool (!termEq k s k' s')) w := by
  have e := toList_eq_iff s s'.toList
  have e2 : (⟨s'.toList.toArray⟩ : ByteArray) = s' := ((toList_eq_iff s' s'.toList).1 rfl).symm
  rw [e2] at e
  simp only [go_sem]
  simp [go_sem]
  by_cases h : k = k' <;> by_cases h2 : s = s' <;> simp [termEq, h, h2, e]
end Go.Proofs.Ytcphjfggjjonpaa
