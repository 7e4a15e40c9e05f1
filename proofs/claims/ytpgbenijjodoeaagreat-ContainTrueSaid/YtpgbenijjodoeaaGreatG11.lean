/- What the functions of the layers lex and syntax come to, as plain functions. No conditions. The walks of lex.letter, lex.digit, lex.word, lex.Word, syntax.mayLong, syntax.mayWord: each comes to its plain function, whatever the world. How terms, atoms, literals and rules lie in memory. No conditions but those of each lemma. -/
import Derived.Test.YtpgbenijjodoeaaGreatG0
import GoSem.Core.Utf8
import Derived.Test.YtpgbenijjodoeaaGreatRows
namespace Go.Proofs.YtpgbenijjodoeaaGreat.K
instance : LawfulBEq ByteArray where
  eq_of_beq := by
    intro a b h
    obtain ⟨x⟩ := a
    obtain ⟨y⟩ := b
    have h' : (x == y) = true := h
    rw [beq_iff_eq.1 h']
  rfl := by
    intro a
    obtain ⟨x⟩ := a
    show (x == x) = true
    simp
structure Term where
  kind : Int
  text : ByteArray
  deriving DecidableEq
structure Atom where
  pred : ByteArray
  terms : List Term
  deriving DecidableEq
structure Lit where
  kind : Int
  atom : Atom
  op : Int
  left : Term
  right : Term
  deriving DecidableEq
structure Rule where
  head : Atom
  body : List Lit
  deriving DecidableEq

def letter (r : Int) : Int :=
  if (97 ≤ r ∧ r ≤ 122) ∨ (223 ≤ r ∧ r ≤ 255 ∧ r ≠ 247) then 1 else if (65 ≤ r ∧ r ≤ 90) ∨ (192 ≤ r ∧ r ≤ 222 ∧ r ≠ 215) then 2 else 0
def digit (r : Int) : Bool := decide (48 ≤ r) && decide (r ≤ 57)
/-- lex.word from a place on. -/
def wordFrom (s : ByteArray) : Nat → Nat → Int → Int × Nat
  | 0, _, kind => (kind, s.size)
  | fuel + 1, pos, kind =>
    if pos < s.size then
      let r : Int := (Utf8.decode s pos).1
      let next := pos + (Utf8.decode s pos).2
      if 0 < pos then
        if letter r = 0 ∧ digit r = false ∧ r ≠ 95 then (kind, pos) else wordFrom s fuel next kind
      else if letter r ≠ 0 then wordFrom s fuel next (letter r)
      else if digit r = true then wordFrom s fuel next 1
      else if r = 95 then wordFrom s fuel next 2
      else (0, 0)
    else (kind, s.size)
def lexword (s : ByteArray) : Int × Nat := wordFrom s s.size 0 0
def lexWord (s : ByteArray) : Int := if (lexword s).2 < s.size then 0 else (lexword s).1
def mayLong (s : ByteArray) : Int := if 4096 < s.size then 84 else 0
def mayWord (s : ByteArray) (kind : Int) : Int := if lexWord s = kind then mayLong s else 80
def mayTerm (t : Term) : Int :=
  if t.kind = 3 then mayLong t.text
  else if t.kind = 2 ∨ t.kind = 4 then (if t.text = ⟨#[]⟩ then 0 else 80)
  else if t.kind = 1 ∨ t.kind = 5 ∨ t.kind = 6 ∨ t.kind = 7 then (if t.text = ⟨#[95]⟩ then 80 else mayWord t.text 2)
  else 80
def mayTerms : List Term → Bool → Int
  | [], _ => 0
  | t :: l, head =>
    if 4 ≤ t.kind ∧ t.kind ≤ 7 then
      if head = false then 80
      else if mayTerm t ≠ 0 then mayTerm t else mayTerms l false
    else if mayTerm t ≠ 0 then mayTerm t else mayTerms l head
def mayAtom (a : Atom) (head : Bool) : Int :=
  if mayWord a.pred 1 ≠ 0 then mayWord a.pred 1
  else if 64 < a.terms.length then 83
  else mayTerms a.terms head
def noTerm : Term := ⟨0, ⟨#[]⟩⟩
def mayPlainTerm (t : Term) : Int := if 4 ≤ t.kind then 80 else mayTerm t
def mayLit (l : Lit) : Int :=
  if (l.kind = 1 ∨ l.kind = 2) ∧ (l.op = 0 ∧ l.left = noTerm ∧ l.right = noTerm) then mayAtom l.atom false
  else if l.kind ≠ 3 ∨ ¬ (l.atom.pred = ⟨#[]⟩ ∧ l.atom.terms = []) ∨ l.op < 1 ∨ 4 < l.op then 80
  else if mayPlainTerm l.left ≠ 0 then mayPlainTerm l.left
  else mayPlainTerm l.right
def mayLits : List Lit → Int
  | [] => 0
  | l :: b => if mayLit l ≠ 0 then mayLit l else mayLits b
def mayRule (r : Rule) : Int :=
  if mayAtom r.head true ≠ 0 then mayAtom r.head true
  else if 64 < r.body.length then 82
  else mayLits r.body
def termVars (ts : List Term) : List ByteArray := ts.filterMap fun t => if t.kind = 1 then some t.text else none
def bodyVars (ls : List Lit) : List ByteArray := ls.flatMap fun l => termVars l.atom.terms
/-- A term that a plain head may not have. -/
def badT (vs : List ByteArray) (t : Term) : Bool := decide (t.kind ≠ 3) && !(decide (t.kind = 1) && decide (t.text ∈ vs))
def plain (r : Rule) : Bool := decide (mayRule r = 0) && (r.body.all (fun l => decide (l.kind = 1)) && !r.head.terms.any (badT (bodyVars r.body)))
/-- What a variable becomes. -/
structure Thing where
  t : Term
  literal : Int
  place : Int
  deriving DecidableEq
abbrev TMap := ByteArray → Option Thing
def updT (m : TMap) (k : ByteArray) (v : Thing) : TMap := fun x => if x = k then some v else m x
def thingOf (o : Term) (lit : Int) (i : Nat) : Thing := ⟨o, if o.kind = 2 then lit else 0, if o.kind = 2 then (i : Int) else 0⟩
def layGo (lit : Int) : List Term → List Term → Nat → TMap → List ByteArray → Option (TMap × List ByteArray)
  | t :: ts, o :: os, i, m, fr =>
    if t.kind = 3 then (if o = t then layGo lit ts os (i + 1) m fr else none)
    else if t.kind = 1 then
      match m t.text with
      | none => layGo lit ts os (i + 1) (updT m t.text (thingOf o lit i)) (fr ++ [t.text])
      | some y => if y = thingOf o lit i then layGo lit ts os (i + 1) m fr else none
    else layGo lit ts os (i + 1) m fr
  | _, _, _, m, fr => some (m, fr)
def lay (m : TMap) (a onto : Atom) (lit : Int) : Option (TMap × List ByteArray) :=
  if a.pred = onto.pred ∧ a.terms.length = onto.terms.length then layGo lit a.terms onto.terms 0 m [] else none
inductive Scan where
  | many
  | found (k : Nat) (m : TMap) (fr : List ByteArray) (looks : Nat)
  | none (looks : Nat)
/-- One atom is tried onto the literals from a place on. -/
def scan (m : TMap) (a : Atom) : List Lit → Nat → Nat → Scan
  | [], _, looks => .none looks
  | l :: rest, k, looks =>
    if 65536 < looks + 1 then .many else
    match lay m a l.atom k with
    | some (m', fr) => .found k m' fr (looks + 1)
    | Option.none => scan m a rest (k + 1) (looks + 1)
def withoutT (m : TMap) (fr : List ByteArray) : TMap := fun x => if x ∈ fr then none else m x
inductive SRes where
  | many
  | no
  | yes (at_ : List Nat)
  deriving DecidableEq
structure SSt where
  m : TMap
  at_ : List Nat
  frs : List (List ByteArray)
  looks : Nat
  from_ : Nat
def srch (rb sb : List Lit) : Nat → SSt → SRes
  | 0, _ => .many
  | f + 1, st =>
    match sb[st.at_.length]? with
    | none => .yes st.at_
    | some l =>
      match scan st.m l.atom (rb.drop st.from_) st.from_ st.looks with
      | .many => .many
      | .found k m' fr lk => srch rb sb f ⟨m', st.at_ ++ [k], st.frs ++ [fr], lk, 0⟩
      | .none lk =>
        match st.at_.getLast? with
        | none => .no
        | some k => srch rb sb f ⟨withoutT st.m (st.frs.getLast?.getD []), st.at_.dropLast, st.frs.dropLast, lk, k + 1⟩
def laid (r s : Rule) : Int × Option (List Nat) :=
  if mayRule r ≠ 0 then (mayRule r, none)
  else if mayRule s ≠ 0 then (mayRule s, none)
  else if (plain r && plain s) = false then (240, none)
  else match lay (fun _ => none) s.head r.head (-1) with
    | none => (0, none)
    | some (m, _) =>
      match srch r.body s.body (65537 * (s.body.length + 2) + 1) ⟨m, [], [], 0, 0⟩ with
      | .many => (241, none)
      | .no => (0, none)
      | .yes l => (0, some l)
end Go.Proofs.YtpgbenijjodoeaaGreat.K
namespace Go.Proofs.YtpgbenijjodoeaaGreat.K
open Go.ChangeShapes Go.WideShapes Go.ChangeAt Go.RowKit
theorem c_letter (r : Int) (w : World) : Calls Tryz.prog 129 #[.int .i32 r] w fun e w' => e = .returned (.int .i64 (letter r)) ∧ w = w' := by
  go_enter Tryz.func129, Tryz.ntmps129
  go_wp2
  all_goals
    go_ret
    refine ⟨ret_int ?_, rfl⟩
    unfold letter
    simp only [bne_iff_ne, bne_eq_false_iff_eq, ne_eq] at *
    first | rfl | ((repeat' split) <;> first | rfl | omega)
theorem c_digit (r : Int) (w : World) : Calls Tryz.prog 130 #[.int .i32 r] w fun e w' => e = .returned (.bool (digit r)) ∧ w = w' := by
  go_enter Tryz.func130, Tryz.ntmps130
  go_wp2
  all_goals
    go_ret
    refine ⟨ret_bool ?_, rfl⟩
    unfold digit
    first | (simp; omega) | (simp; done)
def LexInv (s : ByteArray) (w : World) (v : Value) (wr : World) : Prop := ∃ (pos f : Nat) (k : Int), wr = w.iter s pos ∧ v = .int .i64 k ∧ s.size ≤ pos + f ∧ lexword s = wordFrom s f pos k
theorem iter_ext (w : World) (s : ByteArray) (p : Nat) : Ext w (w.iter s p) := (Below.refl _ _).alloc (Nat.le_refl _) _
theorem decode_pos (s : ByteArray) (p : Nat) : 1 ≤ (Utf8.decode s p).2 := by
  simp only [Utf8.decode]
  repeat' split
  all_goals simp
theorem c_word (s : ByteArray) (w : World) (hs : s.size ≤ maxLen) : Calls Tryz.prog 111 #[.string s] w fun e w' => e = .returned (.tuple #[.int .i64 (lexword s).1, .int .i64 (lexword s).2]) ∧ Ext w w' := by
  unfold maxLen at hs
  go_enter Tryz.func111, Tryz.ntmps111
  go_wp2
  go_loopw [4] (fun v wr => LexInv s w v wr) (fun _ wr => s.size + 4 - wr.iterPos w.heap.size)
  case atStart => exact ⟨0, s.size, 0, rfl, rfl, by omega, rfl⟩
  case round =>
    obtain ⟨pos, f, k, rfl, rfl, hf, hq⟩ := hrel
    have HQ := Lib.hid hq
    clear hq
    by_cases hlt : pos < s.size
    · have hn := fun ty => run_next_any (P := Tryz.prog) w s pos ty hlt
      have hpn : pos < pos + (Utf8.decode s pos).2 := by have := decode_pos s pos; omega
      obtain ⟨f, rfl⟩ : ∃ g, f = g + 1 := ⟨f - 1, by omega⟩
      have hst : wordFrom s (f + 1) pos k = if 0 < pos then (if letter ((Utf8.decode s pos).1 : Nat) = 0 ∧ digit ((Utf8.decode s pos).1 : Nat) = false ∧ (((Utf8.decode s pos).1 : Nat) : Int) ≠ 95 then (k, pos) else wordFrom s f (pos + (Utf8.decode s pos).2) k) else if letter ((Utf8.decode s pos).1 : Nat) ≠ 0 then wordFrom s f (pos + (Utf8.decode s pos).2) (letter ((Utf8.decode s pos).1 : Nat)) else if digit ((Utf8.decode s pos).1 : Nat) = true then wordFrom s f (pos + (Utf8.decode s pos).2) 1 else if (((Utf8.decode s pos).1 : Nat) : Int) = 95 then wordFrom s f (pos + (Utf8.decode s pos).2) 2 else (0, 0) := by
        rw [wordFrom, if_pos hlt]
      generalize ((Utf8.decode s pos).1 : Int) = r at *
      generalize pos + (Utf8.decode s pos).2 = n at *
      have HS := Lib.hid hst
      clear hst
      go_wp2_with (first | (go_at_call 129; (with_reducible refine (c_letter _ _).mono ?_); rintro e w' ⟨rfl, rfl⟩) | (go_at_call 130; (with_reducible refine (c_digit _ _).mono ?_); rintro e w' ⟨rfl, rfl⟩))
      all_goals first | exact ⟨⟨n, f, _, rfl, rfl, by omega, by rw [HQ.out, HS.out]; simp_all⟩, by simp; omega⟩ | (go_ret2; refine ⟨?_, iter_ext _ _ _⟩; rw [HQ.out, HS.out]; simp_all)
    · have hn := fun ty => run_next_end (P := Tryz.prog) w s pos ty hlt
      have hst : wordFrom s f pos k = (k, s.size) := by
        cases f with
        | zero => rfl
        | succ f => rw [wordFrom, if_neg hlt]
      have HS := Lib.hid hst
      clear hst
      go_wp2
      go_ret2
      refine ⟨?_, iter_ext _ _ _⟩
      rw [HQ.out, HS.out]
      rfl
theorem c_Word (s : ByteArray) (w : World) (hs : s.size ≤ maxLen) : Calls Tryz.prog 95 #[.string s] w fun e w' => e = .returned (.int .i64 (lexWord s)) ∧ Ext w w' := by
  have hs' := hs
  unfold maxLen at hs'
  go_enter Tryz.func95, Tryz.ntmps95
  go_wp2_with (go_at_call 111; (with_reducible refine (c_word _ _ hs).mono ?_); rintro e w1 ⟨rfl, hb⟩)
  all_goals
    go_ret
    refine ⟨ret_int ?_, by assumption⟩
    unfold lexWord
    split <;> first | rfl | omega
theorem c_mayLong (s : ByteArray) (w : World) (hs : s.size ≤ maxLen) : Calls Tryz.prog 96 #[.string s] w fun e w' => e = .returned (.int .i64 (mayLong s)) ∧ w = w' := by
  unfold maxLen at hs
  go_enter Tryz.func96, Tryz.ntmps96
  go_wp2
  all_goals
    go_ret
    refine ⟨ret_int ?_, rfl⟩
    unfold mayLong
    split <;> first | rfl | omega
theorem c_mayWord (s : ByteArray) (k : Int) (w : World) (hs : s.size ≤ maxLen) : Calls Tryz.prog 78 #[.string s, .int .i64 k] w fun e w' => e = .returned (.int .i64 (mayWord s k)) ∧ Ext w w' := by
  go_enter Tryz.func78, Tryz.ntmps78
  go_wp2_with (first | (go_at_call 95; (with_reducible refine (c_Word _ _ hs).mono ?_); rintro e w1 ⟨rfl, hb⟩) | (go_at_call 96; (with_reducible refine (c_mayLong _ _ hs).mono ?_); rintro e w2 ⟨rfl, rfl⟩))
  all_goals
    go_ret
    refine ⟨ret_int ?_, by assumption⟩
    unfold mayWord
    simp_all
end Go.Proofs.YtpgbenijjodoeaaGreat.K
namespace Go.Proofs.YtpgbenijjodoeaaGreat.K
open Go.RowKit

def termAt (w : World) (b o : Nat) (t : Term) : Prop :=
  w.cell? ⟨b, o, none⟩ = some (.int .i64 t.kind) ∧ w.cell? ⟨b, o + 1, none⟩ = some (.string t.text) ∧ t.text.size ≤ maxLen
theorem termAt.keep {W w : World} (hb : Ext W w) {b o : Nat} {t : Term} (h : termAt W b o t) : termAt w b o t :=
  ⟨YtpgbenijjodoeaaGreat.keep hb h.1, YtpgbenijjodoeaaGreat.keep hb h.2.1, h.2.2⟩
def TermsAt (w : World) (a : Option Addr) (n : Nat) (ts : List Term) : Prop := n ≤ 5864062014634 ∧ SliceAt termAt 2 w a n ts
theorem TermsAt.keep {W w : World} (hb : Ext W w) {a : Option Addr} {n : Nat} {ts : List Term} (h : TermsAt W a n ts) : TermsAt w a n ts :=
  ⟨h.1, h.2.keep fun _ _ _ => termAt.keep hb⟩

def litAt (w : World) (b o : Nat) (l : Lit) : Prop :=
  ∃ (a : Option Addr) (n cap : Nat), w.cell? ⟨b, o, none⟩ = some (.int .i64 l.kind) ∧ w.cell? ⟨b, o + 1, none⟩ = some (.string l.atom.pred) ∧
    w.cell? ⟨b, o + 2, none⟩ = some (.slice a n cap) ∧ w.cell? ⟨b, o + 3, none⟩ = some (.int .i64 l.op) ∧
    w.cell? ⟨b, o + 4, none⟩ = some (.int .i64 l.left.kind) ∧ w.cell? ⟨b, o + 5, none⟩ = some (.string l.left.text) ∧
    w.cell? ⟨b, o + 6, none⟩ = some (.int .i64 l.right.kind) ∧ w.cell? ⟨b, o + 7, none⟩ = some (.string l.right.text) ∧
    TermsAt w a n l.atom.terms ∧ capOk a n cap ∧ l.atom.pred.size ≤ maxLen ∧ l.left.text.size ≤ maxLen ∧ l.right.text.size ≤ maxLen
theorem litAt.keep {W w : World} (hb : Ext W w) {b o : Nat} {l : Lit} (h : litAt W b o l) : litAt w b o l := by
  obtain ⟨a, n, cap, h0, h1, h2, h3, h4, h5, h6, h7, h8, h9⟩ := h
  exact ⟨a, n, cap, YtpgbenijjodoeaaGreat.keep hb h0, YtpgbenijjodoeaaGreat.keep hb h1, YtpgbenijjodoeaaGreat.keep hb h2, YtpgbenijjodoeaaGreat.keep hb h3, YtpgbenijjodoeaaGreat.keep hb h4, YtpgbenijjodoeaaGreat.keep hb h5, YtpgbenijjodoeaaGreat.keep hb h6, YtpgbenijjodoeaaGreat.keep hb h7, h8.keep hb, h9⟩
def LitsAt (w : World) (a : Option Addr) (n : Nat) (ls : List Lit) : Prop := n ≤ 1353245080303 ∧ SliceAt litAt 8 w a n ls
theorem LitsAt.keep {W w : World} (hb : Ext W w) {a : Option Addr} {n : Nat} {ls : List Lit} (h : LitsAt W a n ls) : LitsAt w a n ls :=
  ⟨h.1, h.2.keep fun _ _ _ => litAt.keep hb⟩

/-- The value of a rule, and what it holds. -/
structure RuleV (w : World) (r : Rule) (ah : Option Addr) (nh ch : Nat) (ab : Option Addr) (nb cb : Nat) : Prop where
  pred : r.head.pred.size ≤ maxLen
  terms : TermsAt w ah nh r.head.terms
  body : LitsAt w ab nb r.body
  hcap : capOk ah nh ch
  bcap : capOk ab nb cb
theorem RuleV.keep {W w : World} (hb : Ext W w) {r : Rule} {ah : Option Addr} {nh ch : Nat} {ab : Option Addr} {nb cb : Nat} (h : RuleV W r ah nh ch ab nb cb) : RuleV w r ah nh ch ab nb cb :=
  ⟨h.pred, h.terms.keep hb, h.body.keep hb, h.hcap, h.bcap⟩

/-- Two terms, part by part, are one. -/
def termEq (k : Int) (s : ByteArray) (k' : Int) (s' : ByteArray) : Bool := decide (k = k' ∧ s = s')
theorem termEq_iff (t t' : Term) : termEq t.kind t.text t'.kind t'.text = decide (t = t') := by
  obtain ⟨k, s⟩ := t
  obtain ⟨k', s'⟩ := t'
  simp [termEq]
theorem eql_term (k k' : Int) (s s' : ByteArray) (w : World) : (binOp .eql 53 (.agg #[.int .i64 k, .string s]) (.agg #[.int .i64 k', .string s'])).run Tryz.prog w = .ok (.bool (termEq k s k' s')) w := by
  have e := toList_eq_iff s s'.toList
  have e2 : (⟨s'.toList.toArray⟩ : ByteArray) = s' := ((toList_eq_iff s' s'.toList).1 rfl).symm
  rw [e2] at e
  simp only [go_sem]
  simp [go_sem]
  by_cases h : k = k' <;> by_cases h2 : s = s' <;> simp [termEq, h, h2, e]
theorem neq_term (k k' : Int) (s s' : ByteArray) (w : World) : (binOp .neq 53 (.agg #[.int .i64 k, .string s]) (.agg #[.int .i64 k', .string s'])).run Tryz.prog w = .ok (.bool (!termEq k s k' s')) w := by
  have e := toList_eq_iff s s'.toList
  have e2 : (⟨s'.toList.toArray⟩ : ByteArray) = s' := ((toList_eq_iff s' s'.toList).1 rfl).symm
  rw [e2] at e
  simp only [go_sem]
  simp [go_sem]
  by_cases h : k = k' <;> by_cases h2 : s = s' <;> simp [termEq, h, h2, e]
end Go.Proofs.YtpgbenijjodoeaaGreat.K
