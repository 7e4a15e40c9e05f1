/- What the functions of the layers lex and syntax come to, as plain functions. No conditions. -/
import GoSem.Core.Utf8
namespace Go.Proofs.Ytcphjfggjjonpaa
instance : LawfulBEq ByteArray where
  eq_of_beq := by
    intro a b h
    obtain ⟨x⟩ := a
    obtain ⟨y⟩ := b
    have h' : (x == y) = true := h
    rw [beq_iff_eq.1 h']
  rfl := by
    intro a
    obtain ⟨x⟩ := a
    show (x == x) = true
    simp
structure Term where
  kind : Int
  text : ByteArray
  deriving DecidableEq
structure Atom where
  pred : ByteArray
  terms : List Term
  deriving DecidableEq
structure Lit where
  kind : Int
  atom : Atom
  op : Int
  left : Term
  right : Term
  deriving DecidableEq
structure Rule where
  head : Atom
  body : List Lit
  deriving DecidableEq

def letter (r : Int) : Int :=
  if (97 ≤ r ∧ r ≤ 122) ∨ (223 ≤ r ∧ r ≤ 255 ∧ r ≠ 247) then 1 else if (65 ≤ r ∧ r ≤ 90) ∨ (192 ≤ r ∧ r ≤ 222 ∧ r ≠ 215) then 2 else 0
def digit (r : Int) : Bool := decide (48 ≤ r) && decide (r ≤ 57)
/-- lex.word from a place on. -/
def wordFrom (s : ByteArray) : Nat → Nat → Int → Int × Nat
  | 0, _, kind => (kind, s.size)
  | fuel + 1, pos, kind =>
    if pos < s.size then
      let r : Int := (Utf8.decode s pos).1
      let next := pos + (Utf8.decode s pos).2
      if 0 < pos then
        if letter r = 0 ∧ digit r = false ∧ r ≠ 95 then (kind, pos) else wordFrom s fuel next kind
      else if letter r ≠ 0 then wordFrom s fuel next (letter r)
      else if digit r = true then wordFrom s fuel next 1
      else if r = 95 then wordFrom s fuel next 2
      else (0, 0)
    else (kind, s.size)
def lexword (s : ByteArray) : Int × Nat := wordFrom s s.size 0 0
def lexWord (s : ByteArray) : Int := if (lexword s).2 < s.size then 0 else (lexword s).1
def mayLong (s : ByteArray) : Int := if 4096 < s.size then 84 else 0
def mayWord (s : ByteArray) (kind : Int) : Int := if lexWord s = kind then mayLong s else 80
def mayTerm (t : Term) : Int :=
  if t.kind = 3 then mayLong t.text
  else if t.kind = 2 ∨ t.kind = 4 then (if t.text = ⟨#[]⟩ then 0 else 80)
  else if t.kind = 1 ∨ t.kind = 5 ∨ t.kind = 6 ∨ t.kind = 7 then (if t.text = ⟨#[95]⟩ then 80 else mayWord t.text 2)
  else 80
def mayTerms : List Term → Bool → Int
  | [], _ => 0
  | t :: l, head =>
    if 4 ≤ t.kind ∧ t.kind ≤ 7 then
      if head = false then 80
      else if mayTerm t ≠ 0 then mayTerm t else mayTerms l false
    else if mayTerm t ≠ 0 then mayTerm t else mayTerms l head
def mayAtom (a : Atom) (head : Bool) : Int :=
  if mayWord a.pred 1 ≠ 0 then mayWord a.pred 1
  else if 64 < a.terms.length then 83
  else mayTerms a.terms head
def noTerm : Term := ⟨0, ⟨#[]⟩⟩
def mayPlainTerm (t : Term) : Int := if 4 ≤ t.kind then 80 else mayTerm t
def mayLit (l : Lit) : Int :=
  if (l.kind = 1 ∨ l.kind = 2) ∧ (l.op = 0 ∧ l.left = noTerm ∧ l.right = noTerm) then mayAtom l.atom false
  else if l.kind ≠ 3 ∨ ¬ (l.atom.pred = ⟨#[]⟩ ∧ l.atom.terms = []) ∨ l.op < 1 ∨ 4 < l.op then 80
  else if mayPlainTerm l.left ≠ 0 then mayPlainTerm l.left
  else mayPlainTerm l.right
def mayLits : List Lit → Int
  | [] => 0
  | l :: b => if mayLit l ≠ 0 then mayLit l else mayLits b
def mayRule (r : Rule) : Int :=
  if mayAtom r.head true ≠ 0 then mayAtom r.head true
  else if 64 < r.body.length then 82
  else mayLits r.body
def termVars (ts : List Term) : List ByteArray := ts.filterMap fun t => if t.kind = 1 then some t.text else none
def bodyVars (ls : List Lit) : List ByteArray := ls.flatMap fun l => termVars l.atom.terms
/-- A term that a plain head may not have. -/
def badT (vs : List ByteArray) (t : Term) : Bool := decide (t.kind ≠ 3) && !(decide (t.kind = 1) && decide (t.text ∈ vs))
def plain (r : Rule) : Bool := decide (mayRule r = 0) && (r.body.all (fun l => decide (l.kind = 1)) && !r.head.terms.any (badT (bodyVars r.body)))
/-- What a variable becomes. -/
structure Thing where
  t : Term
  literal : Int
  place : Int
  deriving DecidableEq
abbrev TMap := ByteArray → Option Thing
def updT (m : TMap) (k : ByteArray) (v : Thing) : TMap := fun x => if x = k then some v else m x
def thingOf (o : Term) (lit : Int) (i : Nat) : Thing := ⟨o, if o.kind = 2 then lit else 0, if o.kind = 2 then (i : Int) else 0⟩
def layGo (lit : Int) : List Term → List Term → Nat → TMap → List ByteArray → Option (TMap × List ByteArray)
  | t :: ts, o :: os, i, m, fr =>
    if t.kind = 3 then (if o = t then layGo lit ts os (i + 1) m fr else none)
    else if t.kind = 1 then
      match m t.text with
      | none => layGo lit ts os (i + 1) (updT m t.text (thingOf o lit i)) (fr ++ [t.text])
      | some y => if y = thingOf o lit i then layGo lit ts os (i + 1) m fr else none
    else layGo lit ts os (i + 1) m fr
  | _, _, _, m, fr => some (m, fr)
def lay (m : TMap) (a onto : Atom) (lit : Int) : Option (TMap × List ByteArray) :=
  if a.pred = onto.pred ∧ a.terms.length = onto.terms.length then layGo lit a.terms onto.terms 0 m [] else none
inductive Scan where
  | many
  | found (k : Nat) (m : TMap) (fr : List ByteArray) (looks : Nat)
  | none (looks : Nat)
/-- One atom is tried onto the literals from a place on. -/
def scan (m : TMap) (a : Atom) : List Lit → Nat → Nat → Scan
  | [], _, looks => .none looks
  | l :: rest, k, looks =>
    if 65536 < looks + 1 then .many else
    match lay m a l.atom k with
    | some (m', fr) => .found k m' fr (looks + 1)
    | Option.none => scan m a rest (k + 1) (looks + 1)
def withoutT (m : TMap) (fr : List ByteArray) : TMap := fun x => if x ∈ fr then none else m x
inductive SRes where
  | many
  | no
  | yes (at_ : List Nat)
  deriving DecidableEq
structure SSt where
  m : TMap
  at_ : List Nat
  frs : List (List ByteArray)
  looks : Nat
  from_ : Nat
def srch (rb sb : List Lit) : Nat → SSt → SRes
  | 0, _ => .many
  | f + 1, st =>
    match sb[st.at_.length]? with
    | none => .yes st.at_
    | some l =>
      match scan st.m l.atom (rb.drop st.from_) st.from_ st.looks with
      | .many => .many
      | .found k m' fr lk => srch rb sb f ⟨m', st.at_ ++ [k], st.frs ++ [fr], lk, 0⟩
      | .none lk =>
        match st.at_.getLast? with
        | none => .no
        | some k => srch rb sb f ⟨withoutT st.m (st.frs.getLast?.getD []), st.at_.dropLast, st.frs.dropLast, lk, k + 1⟩
def laid (r s : Rule) : Int × Option (List Nat) :=
  if mayRule r ≠ 0 then (mayRule r, none)
  else if mayRule s ≠ 0 then (mayRule s, none)
  else if (plain r && plain s) = false then (240, none)
  else match lay (fun _ => none) s.head r.head (-1) with
    | none => (0, none)
    | some (m, _) =>
      match srch r.body s.body (65537 * (s.body.length + 2) + 1) ⟨m, [], [], 0, 0⟩ with
      | .many => (241, none)
      | .no => (0, none)
      | .yes l => (0, some l)
end Go.Proofs.Ytcphjfggjjonpaa
