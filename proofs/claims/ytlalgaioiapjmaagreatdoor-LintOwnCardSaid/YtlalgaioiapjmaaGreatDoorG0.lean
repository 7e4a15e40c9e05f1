/- General lemmas on worlds, cells and slices, over any program. No conditions but those of each lemma. What the functions of the layers lex and syntax come to, as plain functions. No conditions. The walks of lex.letter, lex.digit, lex.word, lex.Word, syntax.mayLong, syntax.mayWord: each comes to its plain function, whatever the world. How terms, atoms, literals and rules lie in memory. No conditions but those of each lemma. -/
import Derived.WalkKit
import Derived.ProofKit
import Derived.OpenShut
import Derived.WalkLawsBesides
import Derived.WalkSpells
import Derived.Outline
import Derived.Handy
import Derived.Lib.Hide
import Derived.Deep.RegionWith
import Derived.Deep.QuietTactic
import Derived.BigQuiet
import Derived.Deep.RegionHeld3
import Derived.Laws.RangeAny
import Derived.Deep.DeepCutAuto
import Derived.Laws.AppendOwnNone
import Derived.Deep.AppendLies
import Derived.Deep.Onto
import GoSem.Core.Utf8
import Derived.Test.YtlalgaioiapjmaaGreatDoorRows
namespace Go.Proofs.YtlalgaioiapjmaaGreatDoor
open Go.ChangeShapes Go.WideShapes Go.ChangeAt Go.RowKit

theorem wp_gen {P : Program} {c : Code} {Q : Exit → Act → World → Prop} {a : Act} {w : World} (h : ∀ W, W = w → c.wp P Q a W) : c.wp P Q a w := h w rfl

/-- The world w grew to w': what was there stands. -/
abbrev Ext (w w' : World) : Prop := Below w.heap.size w w'
theorem ext_trans {a b c : World} (h : Ext a b) (k : Ext b c) : Ext a c := h.trans (k.mono h.size)
theorem ext_after {a b c : World} (k : Ext b c) (h : Ext a b) : Ext a c := ext_trans h k
theorem ext_alloc {a b : World} (h : Ext a b) (o : Obj) : Ext a (b.alloc o) := h.alloc h.size o
theorem ext_drew {a b : World} (h : Ext a b) : Ext a b.drew := h.drew
theorem ext_drewN {a b : World} (h : Ext a b) (n : Nat) : Ext a (b.drewN n) := below_drewN h n
theorem ext_set {a b : World} (h : Ext a b) {p : Addr} (hp : a.heap.size ≤ p.block) (v : Value) : Ext a (b.setCell p v) := h.setCell hp v
theorem keep {W w : World} {p : Addr} {v : Value} (hb : Ext W w) (h : W.cell? p = some v) : w.cell? p = some v := by
  rw [hb.cell (World.block_lt_of_cell? W p h)]; exact h
theorem toList_eq_iff (s : ByteArray) (l : List UInt8) : s.toList = l ↔ s = ⟨l.toArray⟩ := by
  rw [ByteArray.toList_eq]
  obtain ⟨⟨x⟩⟩ := s
  simp
theorem text_empty (s : ByteArray) : s.toList.isEmpty = true ↔ s = ⟨#[]⟩ := by
  rw [List.isEmpty_iff, toList_eq_iff]
theorem text_full (s : ByteArray) : s.toList.isEmpty = false ↔ ¬ s = ⟨#[]⟩ := by
  rw [← text_empty]; simp
theorem ret_int {k : IntKind} {a b : Int} (h : a = b) : Ending.returned (.int k a) = .returned (.int k b) := by rw [h]
theorem ret_bool {a b : Bool} (h : a = b) : Ending.returned (.bool a) = .returned (.bool b) := by rw [h]
theorem beq_bytes (a b : ByteArray) : (a.toList == b.toList) = decide (a = b) := by
  rw [Bool.eq_iff_iff, beq_iff_eq, decide_eq_true_eq, toList_eq_iff]
  obtain ⟨⟨x⟩⟩ := b
  rw [ByteArray.toList_eq]
theorem take_at {α : Type} {l : List α} {k : Nat} {x : α} (h : l[k]? = some x) : l.take (k + 1) = l.take k ++ [x] := by
  rw [List.take_add_one, h]; rfl
theorem drop_at {α : Type} {l : List α} {k : Nat} {x : α} (h : l[k]? = some x) : l.drop k = x :: l.drop (k + 1) := by
  obtain ⟨hk, rfl⟩ := List.getElem?_eq_some_iff.1 h
  exact List.drop_eq_getElem_cons hk
def capOk (a : Option Addr) (n cap : Nat) : Prop := n ≤ cap ∧ (a = none → n = 0 ∧ cap = 0)
theorem gb_of_ext {a b : World} (h : Ext a b) (row : Option Nat) : a.grownBy b row := ⟨h.os, h.tape, h.output, h.size, fun i hi _ => h.block i hi⟩
theorem own_apart {w : World} {b1 b2 n1 n2 s1 s2 : Nat} {e1 e2 : TypeId} {v1 v2 : Value} {x1 x2 : List Value} (h1 : w.ownsRow b1 e1 s1 v1 n1 x1) (h2 : w.ownsRow b2 e2 s2 v2 n2 x2) (hne : e1 ≠ e2) : v1.ownBlock = none ∨ v1.ownBlock ≠ v2.ownBlock := by
  rcases h1.2 with ⟨rfl, _⟩ | ⟨g1, c1, cur1, rfl, _, hg1, _⟩
  · exact .inl rfl
  · right
    rcases h2.2 with ⟨rfl, _⟩ | ⟨g2, c2, cur2, rfl, _, hg2, _⟩
    · simp [Value.ownBlock]
    · simp only [Value.ownBlock]
      intro e
      cases e
      rw [hg1] at hg2
      cases hg2
      exact hne rfl
theorem own_form {w : World} {base n size : Nat} {e : TypeId} {v : Value} {xs : List Value} (h : w.ownsRow base e size v n xs) : ∃ a cap, v = .slice a n cap ∧ n ≤ cap := by
  rcases h.2 with ⟨rfl, rfl⟩ | ⟨g, cap, cur, rfl, _, _, hn, _⟩
  · exact ⟨none, 0, rfl, Nat.le_refl _⟩
  · exact ⟨_, cap, rfl, hn⟩
theorem own_formS {w : World} {base n size : Nat} {e : TypeId} {v : Value} {xs : List Value} (h : w.ownsRow base e size v n xs) (hn : 0 < n) : ∃ g cap, v = .slice (some ⟨g, 0, none⟩) n cap ∧ n ≤ cap := by
  rcases h.2 with ⟨_, h0⟩ | ⟨g, cap, cur, hv, hb, hg, hc, _⟩
  · omega
  · exact ⟨g, cap, hv, hc⟩
theorem own_base {w : World} {base base' : Nat} {e : TypeId} {size n : Nat} {v : Value} {xs : List Value} (h : w.ownsRow base e size v n xs) (hb : base' ≤ base) : w.ownsRow base' e size v n xs := by
  refine ⟨h.1, ?_⟩
  rcases h.2 with h | ⟨g, cap, cur, h1, h2, h3⟩
  · exact .inl h
  · exact .inr ⟨g, cap, cur, h1, by omega, h3⟩
theorem ext_ownB {W w w' : World} {row : Option Nat} (h : Ext W w) (k : w.grownBy w' row) (ho : ∀ g, row = some g → W.heap.size ≤ g) : Ext W w' :=
  ⟨k.os.trans h.os, k.tape.trans h.tape, k.output.trans h.output, Nat.le_trans h.size k.size, fun i hi => (k.block i (Nat.lt_of_lt_of_le hi h.size) (fun e => by have := ho i e.symm; omega)).trans (h.block i hi)⟩
theorem cap_of_own {w : World} {base e size n cap : Nat} {a : Option Addr} {xs : List Value} (h : w.ownsRow base e size (.slice a n cap) n xs) : capOk a n cap := by
  rcases h.2 with ⟨h1, h0⟩ | ⟨g, c', cur, hv, _, _, hc, _⟩
  · cases h1
    exact ⟨Nat.le_refl _, fun _ => ⟨rfl, rfl⟩⟩
  · cases hv
    exact ⟨hc, by intro h; cases h⟩
theorem size_alloc_le {a : Nat} {w : World} {o : Obj} (h : a ≤ w.heap.size) : a ≤ (w.alloc o).heap.size := Nat.le_trans h (by simp)
theorem up_ext {w w' : World} {base n size : Nat} {e : TypeId} {v : Value} {xs : List Value} (h : w.ownsRow base e size v n xs) (k : Ext w w') : w'.ownsRow base e size v n xs := h.kept (gb_of_ext k none) (by cases v.ownBlock <;> simp)
theorem keepA {W w : World} (hb : Ext W w) {a : Addr} {v : Value} (h : W.cell? a = some v) : w.cell? a = some v := by
  rw [← h]
  exact hb.cell (World.block_lt_of_cell? W a h)
theorem own_src {w : World} {base n size : Nat} {e : TypeId} {a : Option Addr} {c : Nat} {xs : List Value} (h : w.ownsRow base e size (.slice a n c) n xs) : ∀ ad, a = some ad → ∀ j u, xs[j]? = some u → w.cell? (ad.add j) = some u := by
  intro ad e' j u hu
  rcases h.2 with ⟨h1, _⟩ | ⟨g, c', cur, hv, _⟩
  · cases h1
    cases e'
  · cases hv
    cases e'
    exact h.cells (g := g) rfl j u hu
theorem own_set_other {w : World} {base n size : Nat} {e : TypeId} {v : Value} {xs : List Value} (h : w.ownsRow base e size v n xs) {a : Addr} (hne : v.ownBlock = none ∨ v.ownBlock ≠ some a.block) (u : Value) : (w.setCell a u).ownsRow base e size v n xs :=
  h.kept (row := some a.block) ⟨rfl, rfl, rfl, by simp, fun k _ hk => heap_setCell_other w a k u (fun e => hk (by simp [e]))⟩ hne
theorem own_pop {w : World} {base n size cap : Nat} {e : TypeId} {a : Option Addr} {xs : List Value} (h : w.ownsRow base e size (.slice a (n + 1) cap) (n + 1) xs) : w.ownsRow base e size (.slice a n cap) n (xs.take (n * size)) := by
  obtain ⟨hl, h2⟩ := h
  rcases h2 with ⟨h0, _⟩ | ⟨g, cap', cur, hv, hg, hh, hn, hcap, hsz, ht⟩
  · cases h0
  · cases hv
    refine ⟨by rw [List.length_take, hl, Nat.min_eq_left (Nat.mul_le_mul_right _ (by omega))], .inr ⟨g, cap, cur, rfl, hg, hh, by omega, hcap, hsz, ?_⟩⟩
    rw [← ht, List.take_take, Nat.min_eq_left (Nat.mul_le_mul_right _ (by omega))]
def SliceAt {α : Type} (E : World → Nat → Nat → α → Prop) (size : Nat) (w : World) (a : Option Addr) (n : Nat) (xs : List α) : Prop :=
  xs.length = n ∧ ∀ i x, xs[i]? = some x → ∃ b off, a = some ⟨b, off, none⟩ ∧ E w b (off + i * size) x
theorem SliceAt.keep {α : Type} {E : World → Nat → Nat → α → Prop} {size : Nat} {W w : World} {a : Option Addr} {n : Nat} {xs : List α}
    (hE : ∀ b o x, E W b o x → E w b o x) (h : SliceAt E size W a n xs) : SliceAt E size w a n xs :=
  ⟨h.1, fun i x hx => let ⟨b, off, h1, h2⟩ := h.2 i x hx; ⟨b, off, h1, hE _ _ _ h2⟩⟩
theorem SliceAt.at {α : Type} {E : World → Nat → Nat → α → Prop} {size : Nat} {w : World} {a : Option Addr} {n : Nat} {xs : List α}
    (h : SliceAt E size w a n xs) {i : Nat} (hi : i < n) : ∃ x b off, xs[i]? = some x ∧ a = some ⟨b, off, none⟩ ∧ E w b (off + i * size) x := by
  have hi' : i < xs.length := by rw [h.1]; exact hi
  obtain ⟨b, off, h1, h2⟩ := h.2 i xs[i] (List.getElem?_eq_getElem hi')
  exact ⟨xs[i], b, off, List.getElem?_eq_getElem hi', h1, h2⟩
section
variable {P : Program} {w : World}
theorem wpList_append_any {ops : Array Oper} {rest : List Oper} {o : Oper} {a : Act} {Q : Exit → Act → World → Prop} (hgd : o.guard = none) (s x : Operand) (t : TypeId)
    (ho : o.op = .call { callee := .builtin .append, args := #[s, x], argTypes := #[t, t] })
    (base : Nat) (e : TypeId) (i : TypeInfo) (z : Value) (size bytes : Nat) (ht : P.underlying t = some (.slice e)) (hi : P.info? e = some i) (hz : i.zero = some z)
    (hsize : i.size = size) (hby : i.bytes = bytes) (hzs : z.cells.size = size) (hsz : 0 < size)
    (v : Value) (n : Nat) (xs : List Value) (hs : a.eval s = v) (hown : w.ownsRow base e size v n xs)
    (aa : Option Addr) (m c : Nat) (news : List Value) (hx : a.eval x = .slice aa m c) (hnil : aa = none → m = 0 ∧ c = 0) (hl : news.length = m * size)
    (hnews : ∀ ad, aa = some ad → ∀ j u, news[j]? = some u → w.cell? (ad.add j) = some u) (h1 : ∀ u ∈ news, u.oneCell' = true)
    (h63 : n + m ≤ maxLen) (hbytes : (n + m) * bytes ≤ 140737488355328) (hbase : base ≤ w.heap.size)
    (h : ∀ v' w', w'.ownsRow base e size v' (n + m) (xs ++ news) → w.grownBy w' v.ownBlock → wpList P ops Q rest (a.put o.dst v') w') : wpList P ops Q (o :: rest) a w := by
  cases aa with
  | none =>
    obtain ⟨rfl, rfl⟩ := hnil rfl
    obtain rfl : news = [] := List.eq_nil_of_length_eq_zero (by simpa using hl)
    refine wpList_append_own_none hgd s x t ho base e i size ht hi v n xs hs hown hx (h v w (by simpa using hown) ⟨rfl, rfl, rfl, Nat.le_refl _, fun _ _ _ => rfl⟩)
  | some ad =>
    exact wpList_append_own w hgd s x t ho base e i z size bytes ht hi hz hsize hby hzs hsz v n xs hs hown ad m c news hx hl (hnews ad rfl) h1 h63 hbytes hbase fun v' w' h2 h3 _ => h v' w' h2 h3
end
/-- All blocks but those of S are as they were. -/
structure ButS (S : Nat → Prop) (w w' : World) : Prop where
  os : w'.os = w.os
  tape : w'.tape = w.tape
  output : w'.output = w.output
  size : w.heap.size ≤ w'.heap.size
  block : ∀ b, b < w.heap.size → ¬ S b → w'.heap[b]? = w.heap[b]?
theorem ButS.refl (S : Nat → Prop) (w : World) : ButS S w w := ⟨rfl, rfl, rfl, Nat.le_refl _, fun _ _ _ => rfl⟩
theorem ButS.ext {S : Nat → Prop} {w x y : World} (h : ButS S w x) (e : Ext x y) : ButS S w y :=
  ⟨e.os.trans h.os, e.tape.trans h.tape, e.output.trans h.output, Nat.le_trans h.size e.size, fun b hb hn => (e.block b (Nat.lt_of_lt_of_le hb h.size)).trans (h.block b hb hn)⟩
theorem ButS.grown {S : Nat → Prop} {w x y : World} {r : Option Nat} (h : ButS S w x) (g : x.grownBy y r) (hr : ∀ b, r = some b → S b ∨ w.heap.size ≤ b) : ButS S w y :=
  ⟨g.os.trans h.os, g.tape.trans h.tape, g.output.trans h.output, Nat.le_trans h.size g.size, fun b hb hn => (g.block b (Nat.lt_of_lt_of_le hb h.size) (fun e => by
    rcases hr b e.symm with h1 | h1
    · exact hn h1
    · omega)).trans (h.block b hb hn)⟩
theorem ButS.alloc {S : Nat → Prop} {w x : World} (h : ButS S w x) (o : Obj) : ButS S w (x.alloc o) := h.ext (ext_alloc (Below.refl _ _) o)
theorem ButS.set {S : Nat → Prop} {w x : World} (h : ButS S w x) {b : Nat} (hb : S b ∨ w.heap.size ≤ b) (j : Nat) (v : Value) : ButS S w (x.setCell ⟨b, j, none⟩ v) :=
  h.grown (r := some b) ⟨rfl, rfl, rfl, by simp, fun k _ hk => heap_setCell_other x ⟨b, j, none⟩ k v (fun e => hk (congrArg some e))⟩ (fun b' e => by cases e; exact hb)
theorem ButS.own {S : Nat → Prop} {w x : World} (h : ButS S w x) {base n size : Nat} {e : TypeId} {v : Value} {xs : List Value} (ho : w.ownsRow base e size v n xs) (hs : ∀ b, v.ownBlock = some b → ¬ S b) : x.ownsRow base e size v n xs := by
  refine ⟨ho.1, ?_⟩
  rcases ho.2 with h1 | ⟨g, cap, cur, rfl, hb, hg, h3⟩
  · exact .inl h1
  · have hlt : g < w.heap.size := by
      rcases Nat.lt_or_ge g w.heap.size with hl | hl
      · exact hl
      · rw [Array.getElem?_eq_none hl] at hg; cases hg
    exact .inr ⟨g, cap, cur, rfl, hb, (h.block g hlt (hs g rfl)).trans hg, h3⟩
theorem ButS.trans {S : Nat → Prop} {w x y : World} (h : ButS S w x) (k : ButS S x y) : ButS S w y :=
  ⟨k.os.trans h.os, k.tape.trans h.tape, k.output.trans h.output, Nat.le_trans h.size k.size, fun b hb hn => (k.block b (Nat.lt_of_lt_of_le hb h.size) hn).trans (h.block b hb hn)⟩
theorem ButS.mono {S T : Nat → Prop} {w x : World} (h : ButS S w x) (hs : ∀ b, b < w.heap.size → S b → T b) : ButS T w x :=
  ⟨h.os, h.tape, h.output, h.size, fun b hb hn => h.block b hb (fun hS => hn (hs b hb hS))⟩
theorem ButS.cell {S : Nat → Prop} {w x : World} (h : ButS S w x) {b o : Nat} {v : Value} (hb : ¬ S b) (hc : w.cell? ⟨b, o, none⟩ = some v) : x.cell? ⟨b, o, none⟩ = some v := by
  rw [← hc]
  exact World.cell?_of_block (h.block b (World.block_lt_of_cell? w ⟨b, o, none⟩ hc) hb)
/-- What is appended to. -/
theorem came_of {w : World} {base n size cap : Nat} {e : TypeId} {a : Option Addr} {xs : List Value} (h : w.ownsRow base e size (.slice a n cap) n xs) : ∃ g, (∀ b, (Value.slice a n cap).ownBlock = some b → b = g) ∧ (∀ b, a = some ⟨b, 0, none⟩ → b = g) ∧ Came w size a g 0 n cap xs := by
  rcases h.2 with ⟨h1, h0⟩ | ⟨g, c', cur, hv, hb, hg, hnc, hcm, hcs, ht⟩
  · cases h1
    have k1 : ∀ b, (Value.slice none 0 0).ownBlock = some b → b = 0 := by intro b e; cases e
    have k2 : ∀ b, (none : Option Addr) = some ⟨b, 0, none⟩ → b = 0 := by intro b e; cases e
    refine ⟨0, k1, k2, ⟨Nat.le_refl _, fun h => absurd h (Nat.lt_irrefl _), fun h => absurd h (Nat.lt_irrefl _), h.1, fun j u hu => ?_, fun j hj => ?_⟩⟩
    · have := (List.getElem?_eq_some_iff.1 hu).1
      have := h.1
      omega
    · simp at hj
  · cases hv
    have k1 : ∀ b, (Value.slice (some ⟨g, 0, none⟩) n cap).ownBlock = some b → b = g := by intro b e; cases e; rfl
    have k2 : ∀ b, (some ⟨g, 0, none⟩ : Option Addr) = some ⟨b, 0, none⟩ → b = g := by intro b e; cases e; rfl
    refine ⟨g, k1, k2, ⟨hnc, fun _ => rfl, fun _ => (h.lt g rfl).2, h.1, fun j u hu => ?_, fun j hj => ?_⟩⟩
    · have := h.cells (g := g) rfl j u hu
      rw [Addr.add_lit] at this
      exact this
    · have hj' : 0 + n * size + j < cur.size := by
        rw [hcs]
        have : (cap - n) * size = cap * size - n * size := Nat.sub_mul _ _ _
        omega
      refine ⟨?_, ?_⟩
      · simp [World.cell?, hg]
        omega
      · simp [World.frozen?, hg]
/-- One element more: the row, what stands beside it, where it lies, and that its old elements stay where they lay. -/
theorem run_append_one {P : Program} (w : World) (t ty : TypeId) (base : Nat) (e : TypeId) (i : TypeInfo) (z : Value) (size bytes : Nat) (ht : P.underlying t = some (.slice e)) (hi : P.info? e = some i) (hz : i.zero = some z) (hsize : i.size = size) (hby : i.bytes = bytes) (hzs : z.cells.size = size) (hsz : 0 < size)
    (a : Option Addr) (n cap : Nat) (xs : List Value) (hown : w.ownsRow base e size (.slice a n cap) n xs)
    (ad : Addr) (c : Nat) (news : List Value) (hl : news.length = size) (hnews : ∀ j u, news[j]? = some u → w.cell? (ad.add j) = some u) (h1 : ∀ u ∈ news, u.oneCell' = true) (h63 : n + 1 ≤ maxLen) (hbytes : (n + 1) * bytes ≤ 140737488355328) (hbase : base ≤ w.heap.size) :
    ∃ g cap' w', (Builtin.append_ #[t, t] ty #[.slice a n cap, .slice (some ad) 1 c]).run P w = .ok (.slice (some ⟨g, 0, none⟩) (n + 1) cap') w' ∧ w'.ownsRow base e size (.slice (some ⟨g, 0, none⟩) (n + 1) cap') (n + 1) (xs ++ news) ∧ w.grownBy w' (Value.slice a n cap).ownBlock ∧ ((Value.slice a n cap).ownBlock = some g ∨ g = w.heap.size) ∧
      ∀ b o u, a = some ⟨b, 0, none⟩ → o < n * size → w.cell? ⟨b, o, none⟩ = some u → w'.cell? ⟨b, o, none⟩ = some u := by
  obtain ⟨g0, _, hg0, hc⟩ := came_of hown
  obtain ⟨g, cap', w', hr, r1, r2, r3, _⟩ := run_append_lies (P := P) w t ty base e i z size bytes ht hi hz hsize hby hzs hsz (.slice a n cap) n xs hown ad 1 c news (by rw [hl, Nat.one_mul]) hnews h1 Nat.zero_lt_one h63 hbytes hbase w.heap.size rfl
  obtain ⟨v2, w2, hr2, ho⟩ := run_append_onto (P := P) hc t ty i z bytes ht hi hz hsize hby hzs hsz (Onto.start hc) ad c news (by rw [hl, Nat.one_mul]) hnews h1 (by simpa using h63) (by simpa using hbytes)
  rw [hr] at hr2
  cases hr2
  refine ⟨g, cap', w', hr, r1, r2, r3, fun b o u hb ho2 hcell => ?_⟩
  have hlt := World.block_lt_of_cell? w ⟨b, o, none⟩ hcell
  rw [← hcell]
  refine ho.old hlt fun j hj1 hj2 => ?_
  rintro ⟨_, h2⟩
  omega
theorem wpList_append_one {P : Program} (w : World) {ops : Array Oper} {rest : List Oper} {o : Oper} {a : Act} {Q : Exit → Act → World → Prop} (hgd : o.guard = none) (s x : Operand) (t : TypeId)
    (ho : o.op = .call { callee := .builtin .append, args := #[s, x], argTypes := #[t, t] })
    (base : Nat) (e : TypeId) (i : TypeInfo) (z : Value) (size bytes : Nat) (ht : P.underlying t = some (.slice e)) (hi : P.info? e = some i) (hz : i.zero = some z) (hsize : i.size = size) (hby : i.bytes = bytes) (hzs : z.cells.size = size) (hsz : 0 < size)
    (av : Option Addr) (n cap : Nat) (xs : List Value) (hs : a.eval s = .slice av n cap) (hown : w.ownsRow base e size (.slice av n cap) n xs)
    (ad : Addr) (c : Nat) (news : List Value) (hx : a.eval x = .slice (some ad) 1 c) (hl : news.length = size) (hnews : ∀ j u, news[j]? = some u → w.cell? (ad.add j) = some u) (h1 : ∀ u ∈ news, u.oneCell' = true) (h63 : n + 1 ≤ maxLen) (hbytes : (n + 1) * bytes ≤ 140737488355328) (hbase : base ≤ w.heap.size)
    (h : ∀ g cap' w', w'.ownsRow base e size (.slice (some ⟨g, 0, none⟩) (n + 1) cap') (n + 1) (xs ++ news) → w.grownBy w' (Value.slice av n cap).ownBlock → ((Value.slice av n cap).ownBlock = some g ∨ g = w.heap.size) →
      (∀ b o u, av = some ⟨b, 0, none⟩ → o < n * size → w.cell? ⟨b, o, none⟩ = some u → w'.cell? ⟨b, o, none⟩ = some u) → wpList P ops Q rest (a.put o.dst (.slice (some ⟨g, 0, none⟩) (n + 1) cap')) w') : wpList P ops Q (o :: rest) a w := by
  refine wpList_plain hgd fun K hK' => ?_
  obtain ⟨g, cap', w', hrun, r1, r2, r3, r4⟩ := run_append_one (P := P) w t o.type base e i z size bytes ht hi hz hsize hby hzs hsz av n cap xs hown ad c news hl hnews h1 h63 hbytes hbase
  unfold Oper.wp
  simp [execOp, ho, resolve, invoke, builtin, hs, hx, hrun, Result.andThen]
  exact hK' _ _ (h g cap' w' r1 r2 r3 r4)
theorem own_addr {w : World} {base n size cap : Nat} {e : TypeId} {a : Option Addr} {xs : List Value} (h : w.ownsRow base e size (.slice a n cap) n xs) {b : Nat} (hb : (Value.slice a n cap).ownBlock = some b) : a = some ⟨b, 0, none⟩ := by
  rcases h.2 with ⟨h1, _⟩ | ⟨g, c', cur, hv, _⟩
  · cases h1
    cases hb
  · cases hv
    cases hb
    rfl
/-- A row of a list of rows. -/
structure LRow where
  v : Value
  n : Nat
  xs : List Value
/-- The blocks of the rows. -/
def Blocks (ls : List LRow) (b : Nat) : Prop := ∃ l ∈ ls, l.v.ownBlock = some b
/-- One row is gone on with: k elements (the cells ks) have been put behind it. -/
structure GrowSt (W : World) (base : Nat) (e : TypeId) (size : Nat) (l : LRow) (k : Nat) (ks : List Value) (v : Value) (w : World) : Prop where
  row : w.ownsRow base e size v (l.n + k) (l.xs ++ ks)
  but : W.grownBy w l.v.ownBlock
  loc : v.ownBlock = l.v.ownBlock ∨ ∀ b, v.ownBlock = some b → W.heap.size ≤ b
  old : ∀ b o u, l.v.ownBlock = some b → o < l.n * size → W.cell? ⟨b, o, none⟩ = some u → w.cell? ⟨b, o, none⟩ = some u
theorem GrowSt.start {W : World} {base : Nat} {e : TypeId} {size : Nat} {l : LRow} (h : W.ownsRow base e size l.v l.n l.xs) : GrowSt W base e size l 0 [] l.v W :=
  ⟨by rw [List.append_nil]; exact h, ⟨rfl, rfl, rfl, Nat.le_refl _, fun _ _ _ => rfl⟩, .inl rfl, fun _ _ _ _ _ h => h⟩
theorem GrowSt.step {W w w' : World} {base : Nat} {e : TypeId} {size : Nat} {l : LRow} {k : Nat} {ks : List Value} {a : Option Addr} {cap g cap' : Nat} {o : Obj} {news : List Value} (h : GrowSt W base e size l k ks (.slice a (l.n + k) cap) w)
    (r1 : w'.ownsRow base e size (.slice (some ⟨g, 0, none⟩) (l.n + k + 1) cap') (l.n + k + 1) (l.xs ++ ks ++ news)) (r2 : (w.alloc o).grownBy w' (Value.slice a (l.n + k) cap).ownBlock) (r3 : (Value.slice a (l.n + k) cap).ownBlock = some g ∨ g = (w.alloc o).heap.size)
    (r4 : ∀ b o' u, a = some ⟨b, 0, none⟩ → o' < (l.n + k) * size → (w.alloc o).cell? ⟨b, o', none⟩ = some u → w'.cell? ⟨b, o', none⟩ = some u) : GrowSt W base e size l (k + 1) (ks ++ news) (.slice (some ⟨g, 0, none⟩) (l.n + (k + 1)) cap') w' := by
  have hea : Ext w (w.alloc o) := ext_alloc (Below.refl _ _) o
  have hWw := h.but.size
  refine ⟨?_, ?_, ?_, ?_⟩
  · rw [← List.append_assoc]
    exact r1
  · refine ⟨r2.os.trans h.but.os, r2.tape.trans h.but.tape, r2.output.trans h.but.output, ?_, fun b hb hne => ?_⟩
    · have := r2.size
      have := hea.size
      omega
    · have hbw : b < w.heap.size := Nat.lt_of_lt_of_le hb hWw
      refine (r2.block b (Nat.lt_of_lt_of_le hbw hea.size) (fun e' => ?_)).trans ((hea.block b hbw).trans (h.but.block b hb hne))
      rcases h.loc with h1 | h1
      · exact hne (e'.trans h1)
      · have := h1 b e'.symm
        omega
  · rcases r3 with r3 | r3
    · rcases h.loc with h1 | h1
      · exact .inl (by rw [← h1, r3]; rfl)
      · exact .inr fun b hb => by cases hb; exact h1 _ r3
    · refine .inr fun b hb => ?_
      cases hb
      have := hea.size
      show W.heap.size ≤ g
      omega
  · intro b o' u hb ho hc
    have hcw := keep hea (h.old b o' u hb ho hc)
    rcases h.loc with h1 | h1
    · exact r4 b o' u (own_addr h.row (h1.trans hb)) (Nat.lt_of_lt_of_le ho (Nat.mul_le_mul_right _ (by omega))) hcw
    · have hbl := World.block_lt_of_cell? W ⟨b, o', none⟩ hc
      have hbl : b < W.heap.size := hbl
      rw [← hcw]
      refine World.cell?_of_block (r2.block b (by have := hea.size; omega) (fun e' => ?_))
      have := h1 b e'.symm
      omega
/-- The first i rows are gone on with, in the list long of their new values; the others are as they were. -/
structure Gone (W : World) (base : Nat) (e : TypeId) (size : Nat) (te : TypeId) (ls : List LRow) (M : Nat) (ks : Nat → List Value) (i : Nat) (long : Value) (w : World) : Prop where
  but : ButS (Blocks ls) W w
  todo : ∀ j l, i ≤ j → ls[j]? = some l → w.ownsRow base e size l.v l.n l.xs
  done : ∃ vs : List Value, w.ownsRow W.heap.size te 1 long i vs ∧ ∀ j l v, j < i → ls[j]? = some l → vs[j]? = some v → (∃ g c, v = .slice (some ⟨g, 0, none⟩) (l.n + M) c) ∧ w.ownsRow base e size v (l.n + M) (l.xs ++ ks j) ∧ (v.ownBlock = l.v.ownBlock ∨ ∀ b, v.ownBlock = some b → W.heap.size ≤ b)
  old : ∀ j l, j < i → ls[j]? = some l → ∀ b o u, l.v.ownBlock = some b → l.xs[o]? = some u → w.cell? ⟨b, o, none⟩ = some u
theorem apart_at {ls : List LRow} (hp : ls.Pairwise fun a b => a.v.ownBlock = none ∨ a.v.ownBlock ≠ b.v.ownBlock) {i j : Nat} (hne : i ≠ j) {a b : LRow} (ha : ls[i]? = some a) (hb : ls[j]? = some b) {x : Nat} (h1 : a.v.ownBlock = some x) (h2 : b.v.ownBlock = some x) : False := by
  obtain ⟨hi, rfl⟩ := List.getElem?_eq_some_iff.1 ha
  obtain ⟨hj, rfl⟩ := List.getElem?_eq_some_iff.1 hb
  rcases Nat.lt_or_gt_of_ne hne with h | h
  · rcases List.pairwise_iff_getElem.1 hp i j hi hj h with h3 | h3
    · rw [h3] at h1; cases h1
    · exact h3 (h1.trans h2.symm)
  · rcases List.pairwise_iff_getElem.1 hp j i hj hi h with h3 | h3
    · rw [h3] at h2; cases h2
    · exact h3 (h2.trans h1.symm)
theorem Gone.next {W w w1 w' : World} {base : Nat} {e : TypeId} {size : Nat} {te : TypeId} {ls : List LRow} {M : Nat} {ks : Nat → List Value} {i : Nat} {long long' : Value} {l : LRow} {a : Option Addr} {n cap : Nat} {o : Obj}
    (hne : e ≠ te) (hM : 0 < M) (hp : ls.Pairwise fun a b => a.v.ownBlock = none ∨ a.v.ownBlock ≠ b.v.ownBlock) (hlt : ∀ l ∈ ls, ∀ b, l.v.ownBlock = some b → b < W.heap.size)
    (h : Gone W base e size te ls M ks i long w) (hl : ls[i]? = some l) (hg : GrowSt w base e size l M (ks i) (.slice a n cap) w1) (hn : n = l.n + M)
    {vs : List Value} (hvs : w.ownsRow W.heap.size te 1 long i vs) (hdone : ∀ j l v, j < i → ls[j]? = some l → vs[j]? = some v → (∃ g c, v = .slice (some ⟨g, 0, none⟩) (l.n + M) c) ∧ w.ownsRow base e size v (l.n + M) (l.xs ++ ks j) ∧ (v.ownBlock = l.v.ownBlock ∨ ∀ b, v.ownBlock = some b → W.heap.size ≤ b))
    (r1 : w'.ownsRow W.heap.size te 1 long' (i + 1) (vs ++ [.slice a n cap])) (r2 : (w1.alloc o).grownBy w' long.ownBlock) : Gone W base e size te ls M ks (i + 1) long' w' := by
  subst hn
  have hWw := h.but.size
  have hlm : l ∈ ls := List.mem_of_getElem? hl
  have hea : Ext w1 (w1.alloc o) := ext_alloc (Below.refl _ _) o
  have hlo : ∀ b, long.ownBlock = some b → W.heap.size ≤ b := fun b hb' => (hvs.lt b hb').1
  -- long lies beside the row that grew
  have hlong1 : w1.ownsRow W.heap.size te 1 long i vs := by
    refine hvs.kept hg.but ?_
    cases hx : long.ownBlock with
    | none => exact .inl rfl
    | some b =>
      refine .inr fun e' => ?_
      have h1 := hlo b hx
      have h2 := hlt l hlm b e'.symm
      omega
  have keep1 : ∀ {v : Value} {m : Nat} {xs : List Value}, w1.ownsRow base e size v m xs → w'.ownsRow base e size v m xs := fun hh => (hh.alloc o).kept r2 (own_apart (hh.alloc o) (hlong1.alloc o) hne)
  have cell1 : ∀ {b o' : Nat} {u : Value}, b < W.heap.size → w1.cell? ⟨b, o', none⟩ = some u → w'.cell? ⟨b, o', none⟩ = some u := fun {b o' u} hbW hc => by
    have hcw := keep hea hc
    rw [← hcw]
    refine World.cell?_of_block (r2.block b (World.block_lt_of_cell? (w1.alloc o) ⟨b, o', none⟩ hcw) (fun e' => ?_))
    have := hlo b e'.symm
    omega
  refine ⟨?_, fun j l' hj hl' => keep1 ?_, ⟨vs ++ [.slice a (l.n + M) cap], r1, fun j l' v hj hl' hv => ?_⟩, fun j l' hj hl' b o' u hb' hc => ?_⟩
  · exact ((h.but.grown hg.but (fun b hb' => .inl ⟨l, hlm, hb'⟩)).alloc o).grown r2 (fun b hb' => .inr (hlo b hb'))
  · refine (h.todo j l' (by omega) hl').kept hg.but ?_
    cases hx : l'.v.ownBlock with
    | none => exact .inl rfl
    | some b => exact .inr fun e' => apart_at hp (by omega) hl' hl hx e'.symm
  · by_cases hji : j = i
    · subst hji
      rw [hl] at hl'
      cases hl'
      have hlen : vs.length = j := by have := hvs.1; omega
      rw [List.getElem?_append_right (by omega), hlen, Nat.sub_self] at hv
      cases hv
      refine ⟨?_, keep1 hg.row, ?_⟩
      · rcases hg.row.2 with ⟨h1, h0⟩ | ⟨g1, c1, cur, hv, _⟩
        · omega
        · cases hv
          exact ⟨g1, _, rfl⟩
      · rcases hg.loc with h1 | h1
        · exact .inl h1
        · exact .inr fun b hb' => Nat.le_trans hWw (h1 b hb')
    · have hlen : vs.length = i := by have := hvs.1; omega
      rw [List.getElem?_append_left (by omega)] at hv
      obtain ⟨d1, d2, d3⟩ := hdone j l' v (by omega) hl' hv
      refine ⟨d1, keep1 (d2.kept hg.but ?_), d3⟩
      cases hx : v.ownBlock with
      | none => exact .inl rfl
      | some b =>
        refine .inr fun e' => ?_
        rcases d3 with d3 | d3
        · exact apart_at hp hji hl' hl (d3.symm.trans hx) e'.symm
        · have h1 := d3 b hx
          have h2 := hlt l hlm b e'.symm
          omega
  · have hbW : b < W.heap.size := hlt l' (List.mem_of_getElem? hl') b hb'
    refine cell1 hbW ?_
    by_cases hji : j = i
    · subst hji
      rw [hl] at hl'
      cases hl'
      have hrow := h.todo j l (Nat.le_refl _) hl
      have ho : o' < l.n * size := by
        have := (List.getElem?_eq_some_iff.1 hc).1
        rw [hrow.1] at this
        exact this
      refine hg.old b o' u hb' ho ?_
      obtain ⟨v, m, xs⟩ := l
      rcases hrow.2 with ⟨h1, _⟩ | ⟨g1, c1, cur, hv, _⟩
      · dsimp only at h1 hb'
        rw [h1] at hb'
        cases hb'
      · dsimp only at hv hb'
        subst hv
        cases hb'
        have := hrow.cells (g := g1) rfl o' u hc
        rw [Addr.add_lit, Nat.zero_add] at this
        exact this
    · have hcw := h.old j l' (by omega) hl' b o' u hb' hc
      rw [← hcw]
      refine World.cell?_of_block (hg.but.block b (Nat.lt_of_lt_of_le hbW hWw) (fun e' => apart_at hp hji hl' hl hb' e'.symm))
theorem Gone.start {W : World} {base : Nat} {e : TypeId} {size : Nat} {te : TypeId} {ls : List LRow} {M : Nat} {ks : Nat → List Value} (h : ∀ l ∈ ls, W.ownsRow base e size l.v l.n l.xs) : Gone W base e size te ls M ks 0 (.slice none 0 0) W :=
  ⟨ButS.refl _ _, fun _ l _ hl => h l (List.mem_of_getElem? hl), ⟨[], World.ownsRow_nil _ _ _ _, fun _ _ _ hj => absurd hj (Nat.not_lt_zero _)⟩, fun _ _ hj => absurd hj (Nat.not_lt_zero _)⟩
theorem ext_of_but {w x z : World} {S : Nat → Prop} (h1 : Ext w x) (h2 : ButS S x z) (hs : ∀ b, b < w.heap.size → ¬ S b) : Ext w z :=
  ⟨h2.os.trans h1.os, h2.tape.trans h1.tape, h2.output.trans h1.output, Nat.le_trans h1.size h2.size, fun i hi => (h2.block i (Nat.lt_of_lt_of_le hi h1.size) (hs i hi)).trans (h1.block i hi)⟩
theorem news1 (w : World) (u : Value) (t : TypeId) : ∀ j x, [u][j]? = some x → (w.alloc (.cells #[u] t)).cell? ((⟨w.heap.size, 0, none⟩ : Addr).add j) = some x := by
  intro j x hx
  rw [Addr.add_lit, World.cell?_alloc_new, Nat.zero_add]
  simpa using hx
end Go.Proofs.YtlalgaioiapjmaaGreatDoor
namespace Go.Proofs.YtlalgaioiapjmaaGreatDoor.K
instance : LawfulBEq ByteArray where
  eq_of_beq := by
    intro a b h
    obtain ⟨x⟩ := a
    obtain ⟨y⟩ := b
    have h' : (x == y) = true := h
    rw [beq_iff_eq.1 h']
  rfl := by
    intro a
    obtain ⟨x⟩ := a
    show (x == x) = true
    simp
structure Term where
  kind : Int
  text : ByteArray
  deriving DecidableEq
structure Atom where
  pred : ByteArray
  terms : List Term
  deriving DecidableEq
structure Lit where
  kind : Int
  atom : Atom
  op : Int
  left : Term
  right : Term
  deriving DecidableEq
structure Rule where
  head : Atom
  body : List Lit
  deriving DecidableEq

def letter (r : Int) : Int :=
  if (97 ≤ r ∧ r ≤ 122) ∨ (223 ≤ r ∧ r ≤ 255 ∧ r ≠ 247) then 1 else if (65 ≤ r ∧ r ≤ 90) ∨ (192 ≤ r ∧ r ≤ 222 ∧ r ≠ 215) then 2 else 0
def digit (r : Int) : Bool := decide (48 ≤ r) && decide (r ≤ 57)
/-- lex.word from a place on. -/
def wordFrom (s : ByteArray) : Nat → Nat → Int → Int × Nat
  | 0, _, kind => (kind, s.size)
  | fuel + 1, pos, kind =>
    if pos < s.size then
      let r : Int := (Utf8.decode s pos).1
      let next := pos + (Utf8.decode s pos).2
      if 0 < pos then
        if letter r = 0 ∧ digit r = false ∧ r ≠ 95 then (kind, pos) else wordFrom s fuel next kind
      else if letter r ≠ 0 then wordFrom s fuel next (letter r)
      else if digit r = true then wordFrom s fuel next 1
      else if r = 95 then wordFrom s fuel next 2
      else (0, 0)
    else (kind, s.size)
def lexword (s : ByteArray) : Int × Nat := wordFrom s s.size 0 0
def lexWord (s : ByteArray) : Int := if (lexword s).2 < s.size then 0 else (lexword s).1
def mayLong (s : ByteArray) : Int := if 4096 < s.size then 84 else 0
def mayWord (s : ByteArray) (kind : Int) : Int := if lexWord s = kind then mayLong s else 80
def mayTerm (t : Term) : Int :=
  if t.kind = 3 then mayLong t.text
  else if t.kind = 2 ∨ t.kind = 4 then (if t.text = ⟨#[]⟩ then 0 else 80)
  else if t.kind = 1 ∨ t.kind = 5 ∨ t.kind = 6 ∨ t.kind = 7 then (if t.text = ⟨#[95]⟩ then 80 else mayWord t.text 2)
  else 80
def mayTerms : List Term → Bool → Int
  | [], _ => 0
  | t :: l, head =>
    if 4 ≤ t.kind ∧ t.kind ≤ 7 then
      if head = false then 80
      else if mayTerm t ≠ 0 then mayTerm t else mayTerms l false
    else if mayTerm t ≠ 0 then mayTerm t else mayTerms l head
def mayAtom (a : Atom) (head : Bool) : Int :=
  if mayWord a.pred 1 ≠ 0 then mayWord a.pred 1
  else if 64 < a.terms.length then 83
  else mayTerms a.terms head
def noTerm : Term := ⟨0, ⟨#[]⟩⟩
def mayPlainTerm (t : Term) : Int := if 4 ≤ t.kind then 80 else mayTerm t
def mayLit (l : Lit) : Int :=
  if (l.kind = 1 ∨ l.kind = 2) ∧ (l.op = 0 ∧ l.left = noTerm ∧ l.right = noTerm) then mayAtom l.atom false
  else if l.kind ≠ 3 ∨ ¬ (l.atom.pred = ⟨#[]⟩ ∧ l.atom.terms = []) ∨ l.op < 1 ∨ 4 < l.op then 80
  else if mayPlainTerm l.left ≠ 0 then mayPlainTerm l.left
  else mayPlainTerm l.right
def mayLits : List Lit → Int
  | [] => 0
  | l :: b => if mayLit l ≠ 0 then mayLit l else mayLits b
def mayRule (r : Rule) : Int :=
  if mayAtom r.head true ≠ 0 then mayAtom r.head true
  else if 64 < r.body.length then 82
  else mayLits r.body
def termVars (ts : List Term) : List ByteArray := ts.filterMap fun t => if t.kind = 1 then some t.text else none
def bodyVars (ls : List Lit) : List ByteArray := ls.flatMap fun l => termVars l.atom.terms
/-- A term that a plain head may not have. -/
def badT (vs : List ByteArray) (t : Term) : Bool := decide (t.kind ≠ 3) && !(decide (t.kind = 1) && decide (t.text ∈ vs))
def plain (r : Rule) : Bool := decide (mayRule r = 0) && (r.body.all (fun l => decide (l.kind = 1)) && !r.head.terms.any (badT (bodyVars r.body)))
/-- What a variable becomes. -/
structure Thing where
  t : Term
  literal : Int
  place : Int
  deriving DecidableEq
abbrev TMap := ByteArray → Option Thing
def updT (m : TMap) (k : ByteArray) (v : Thing) : TMap := fun x => if x = k then some v else m x
def thingOf (o : Term) (lit : Int) (i : Nat) : Thing := ⟨o, if o.kind = 2 then lit else 0, if o.kind = 2 then (i : Int) else 0⟩
def layGo (lit : Int) : List Term → List Term → Nat → TMap → List ByteArray → Option (TMap × List ByteArray)
  | t :: ts, o :: os, i, m, fr =>
    if t.kind = 3 then (if o = t then layGo lit ts os (i + 1) m fr else none)
    else if t.kind = 1 then
      match m t.text with
      | none => layGo lit ts os (i + 1) (updT m t.text (thingOf o lit i)) (fr ++ [t.text])
      | some y => if y = thingOf o lit i then layGo lit ts os (i + 1) m fr else none
    else layGo lit ts os (i + 1) m fr
  | _, _, _, m, fr => some (m, fr)
def lay (m : TMap) (a onto : Atom) (lit : Int) : Option (TMap × List ByteArray) :=
  if a.pred = onto.pred ∧ a.terms.length = onto.terms.length then layGo lit a.terms onto.terms 0 m [] else none
inductive Scan where
  | many
  | found (k : Nat) (m : TMap) (fr : List ByteArray) (looks : Nat)
  | none (looks : Nat)
/-- One atom is tried onto the literals from a place on. -/
def scan (m : TMap) (a : Atom) : List Lit → Nat → Nat → Scan
  | [], _, looks => .none looks
  | l :: rest, k, looks =>
    if 65536 < looks + 1 then .many else
    match lay m a l.atom k with
    | some (m', fr) => .found k m' fr (looks + 1)
    | Option.none => scan m a rest (k + 1) (looks + 1)
def withoutT (m : TMap) (fr : List ByteArray) : TMap := fun x => if x ∈ fr then none else m x
inductive SRes where
  | many
  | no
  | yes (at_ : List Nat)
  deriving DecidableEq
structure SSt where
  m : TMap
  at_ : List Nat
  frs : List (List ByteArray)
  looks : Nat
  from_ : Nat
def srch (rb sb : List Lit) : Nat → SSt → SRes
  | 0, _ => .many
  | f + 1, st =>
    match sb[st.at_.length]? with
    | none => .yes st.at_
    | some l =>
      match scan st.m l.atom (rb.drop st.from_) st.from_ st.looks with
      | .many => .many
      | .found k m' fr lk => srch rb sb f ⟨m', st.at_ ++ [k], st.frs ++ [fr], lk, 0⟩
      | .none lk =>
        match st.at_.getLast? with
        | none => .no
        | some k => srch rb sb f ⟨withoutT st.m (st.frs.getLast?.getD []), st.at_.dropLast, st.frs.dropLast, lk, k + 1⟩
def laid (r s : Rule) : Int × Option (List Nat) :=
  if mayRule r ≠ 0 then (mayRule r, none)
  else if mayRule s ≠ 0 then (mayRule s, none)
  else if (plain r && plain s) = false then (240, none)
  else match lay (fun _ => none) s.head r.head (-1) with
    | none => (0, none)
    | some (m, _) =>
      match srch r.body s.body (65537 * (s.body.length + 2) + 1) ⟨m, [], [], 0, 0⟩ with
      | .many => (241, none)
      | .no => (0, none)
      | .yes l => (0, some l)
end Go.Proofs.YtlalgaioiapjmaaGreatDoor.K
namespace Go.Proofs.YtlalgaioiapjmaaGreatDoor.K
open Go.ChangeShapes Go.WideShapes Go.ChangeAt Go.RowKit
theorem c_letter (r : Int) (w : World) : Calls Tryz.prog 173 #[.int .i32 r] w fun e w' => e = .returned (.int .i64 (letter r)) ∧ w = w' := by
  go_enter Tryz.func173, Tryz.ntmps173
  go_wp2
  all_goals
    go_ret
    refine ⟨ret_int ?_, rfl⟩
    unfold letter
    simp only [bne_iff_ne, bne_eq_false_iff_eq, ne_eq] at *
    first | rfl | ((repeat' split) <;> first | rfl | omega)
theorem c_digit (r : Int) (w : World) : Calls Tryz.prog 174 #[.int .i32 r] w fun e w' => e = .returned (.bool (digit r)) ∧ w = w' := by
  go_enter Tryz.func174, Tryz.ntmps174
  go_wp2
  all_goals
    go_ret
    refine ⟨ret_bool ?_, rfl⟩
    unfold digit
    first | (simp; omega) | (simp; done)
def LexInv (s : ByteArray) (w : World) (v : Value) (wr : World) : Prop := ∃ (pos f : Nat) (k : Int), wr = w.iter s pos ∧ v = .int .i64 k ∧ s.size ≤ pos + f ∧ lexword s = wordFrom s f pos k
theorem iter_ext (w : World) (s : ByteArray) (p : Nat) : Ext w (w.iter s p) := (Below.refl _ _).alloc (Nat.le_refl _) _
theorem decode_pos (s : ByteArray) (p : Nat) : 1 ≤ (Utf8.decode s p).2 := by
  simp only [Utf8.decode]
  repeat' split
  all_goals simp
theorem c_word (s : ByteArray) (w : World) (hs : s.size ≤ maxLen) : Calls Tryz.prog 170 #[.string s] w fun e w' => e = .returned (.tuple #[.int .i64 (lexword s).1, .int .i64 (lexword s).2]) ∧ Ext w w' := by
  unfold maxLen at hs
  go_enter Tryz.func170, Tryz.ntmps170
  go_wp2
  go_loopw [4] (fun v wr => LexInv s w v wr) (fun _ wr => s.size + 4 - wr.iterPos w.heap.size)
  case atStart => exact ⟨0, s.size, 0, rfl, rfl, by omega, rfl⟩
  case round =>
    obtain ⟨pos, f, k, rfl, rfl, hf, hq⟩ := hrel
    have HQ := Lib.hid hq
    clear hq
    by_cases hlt : pos < s.size
    · have hn := fun ty => run_next_any (P := Tryz.prog) w s pos ty hlt
      have hpn : pos < pos + (Utf8.decode s pos).2 := by have := decode_pos s pos; omega
      obtain ⟨f, rfl⟩ : ∃ g, f = g + 1 := ⟨f - 1, by omega⟩
      have hst : wordFrom s (f + 1) pos k = if 0 < pos then (if letter ((Utf8.decode s pos).1 : Nat) = 0 ∧ digit ((Utf8.decode s pos).1 : Nat) = false ∧ (((Utf8.decode s pos).1 : Nat) : Int) ≠ 95 then (k, pos) else wordFrom s f (pos + (Utf8.decode s pos).2) k) else if letter ((Utf8.decode s pos).1 : Nat) ≠ 0 then wordFrom s f (pos + (Utf8.decode s pos).2) (letter ((Utf8.decode s pos).1 : Nat)) else if digit ((Utf8.decode s pos).1 : Nat) = true then wordFrom s f (pos + (Utf8.decode s pos).2) 1 else if (((Utf8.decode s pos).1 : Nat) : Int) = 95 then wordFrom s f (pos + (Utf8.decode s pos).2) 2 else (0, 0) := by
        rw [wordFrom, if_pos hlt]
      generalize ((Utf8.decode s pos).1 : Int) = r at *
      generalize pos + (Utf8.decode s pos).2 = n at *
      have HS := Lib.hid hst
      clear hst
      go_wp2_with (first | (go_at_call 173; (with_reducible refine (c_letter _ _).mono ?_); rintro e w' ⟨rfl, rfl⟩) | (go_at_call 174; (with_reducible refine (c_digit _ _).mono ?_); rintro e w' ⟨rfl, rfl⟩))
      all_goals first | exact ⟨⟨n, f, _, rfl, rfl, by omega, by rw [HQ.out, HS.out]; simp_all⟩, by simp; omega⟩ | (go_ret2; refine ⟨?_, iter_ext _ _ _⟩; rw [HQ.out, HS.out]; simp_all)
    · have hn := fun ty => run_next_end (P := Tryz.prog) w s pos ty hlt
      have hst : wordFrom s f pos k = (k, s.size) := by
        cases f with
        | zero => rfl
        | succ f => rw [wordFrom, if_neg hlt]
      have HS := Lib.hid hst
      clear hst
      go_wp2
      go_ret2
      refine ⟨?_, iter_ext _ _ _⟩
      rw [HQ.out, HS.out]
      rfl
theorem c_Word (s : ByteArray) (w : World) (hs : s.size ≤ maxLen) : Calls Tryz.prog 161 #[.string s] w fun e w' => e = .returned (.int .i64 (lexWord s)) ∧ Ext w w' := by
  have hs' := hs
  unfold maxLen at hs'
  go_enter Tryz.func161, Tryz.ntmps161
  go_wp2_with (go_at_call 170; (with_reducible refine (c_word _ _ hs).mono ?_); rintro e w1 ⟨rfl, hb⟩)
  all_goals
    go_ret
    refine ⟨ret_int ?_, by assumption⟩
    unfold lexWord
    split <;> first | rfl | omega
theorem c_mayLong (s : ByteArray) (w : World) (hs : s.size ≤ maxLen) : Calls Tryz.prog 162 #[.string s] w fun e w' => e = .returned (.int .i64 (mayLong s)) ∧ w = w' := by
  unfold maxLen at hs
  go_enter Tryz.func162, Tryz.ntmps162
  go_wp2
  all_goals
    go_ret
    refine ⟨ret_int ?_, rfl⟩
    unfold mayLong
    split <;> first | rfl | omega
theorem c_mayWord (s : ByteArray) (k : Int) (w : World) (hs : s.size ≤ maxLen) : Calls Tryz.prog 137 #[.string s, .int .i64 k] w fun e w' => e = .returned (.int .i64 (mayWord s k)) ∧ Ext w w' := by
  go_enter Tryz.func137, Tryz.ntmps137
  go_wp2_with (first | (go_at_call 161; (with_reducible refine (c_Word _ _ hs).mono ?_); rintro e w1 ⟨rfl, hb⟩) | (go_at_call 162; (with_reducible refine (c_mayLong _ _ hs).mono ?_); rintro e w2 ⟨rfl, rfl⟩))
  all_goals
    go_ret
    refine ⟨ret_int ?_, by assumption⟩
    unfold mayWord
    simp_all
end Go.Proofs.YtlalgaioiapjmaaGreatDoor.K
namespace Go.Proofs.YtlalgaioiapjmaaGreatDoor.K
open Go.RowKit

def termAt (w : World) (b o : Nat) (t : Term) : Prop :=
  w.cell? ⟨b, o, none⟩ = some (.int .i64 t.kind) ∧ w.cell? ⟨b, o + 1, none⟩ = some (.string t.text) ∧ t.text.size ≤ maxLen
theorem termAt.keep {W w : World} (hb : Ext W w) {b o : Nat} {t : Term} (h : termAt W b o t) : termAt w b o t :=
  ⟨YtlalgaioiapjmaaGreatDoor.keep hb h.1, YtlalgaioiapjmaaGreatDoor.keep hb h.2.1, h.2.2⟩
def TermsAt (w : World) (a : Option Addr) (n : Nat) (ts : List Term) : Prop := n ≤ 5864062014634 ∧ SliceAt termAt 2 w a n ts
theorem TermsAt.keep {W w : World} (hb : Ext W w) {a : Option Addr} {n : Nat} {ts : List Term} (h : TermsAt W a n ts) : TermsAt w a n ts :=
  ⟨h.1, h.2.keep fun _ _ _ => termAt.keep hb⟩

def litAt (w : World) (b o : Nat) (l : Lit) : Prop :=
  ∃ (a : Option Addr) (n cap : Nat), w.cell? ⟨b, o, none⟩ = some (.int .i64 l.kind) ∧ w.cell? ⟨b, o + 1, none⟩ = some (.string l.atom.pred) ∧
    w.cell? ⟨b, o + 2, none⟩ = some (.slice a n cap) ∧ w.cell? ⟨b, o + 3, none⟩ = some (.int .i64 l.op) ∧
    w.cell? ⟨b, o + 4, none⟩ = some (.int .i64 l.left.kind) ∧ w.cell? ⟨b, o + 5, none⟩ = some (.string l.left.text) ∧
    w.cell? ⟨b, o + 6, none⟩ = some (.int .i64 l.right.kind) ∧ w.cell? ⟨b, o + 7, none⟩ = some (.string l.right.text) ∧
    TermsAt w a n l.atom.terms ∧ capOk a n cap ∧ l.atom.pred.size ≤ maxLen ∧ l.left.text.size ≤ maxLen ∧ l.right.text.size ≤ maxLen
theorem litAt.keep {W w : World} (hb : Ext W w) {b o : Nat} {l : Lit} (h : litAt W b o l) : litAt w b o l := by
  obtain ⟨a, n, cap, h0, h1, h2, h3, h4, h5, h6, h7, h8, h9⟩ := h
  exact ⟨a, n, cap, YtlalgaioiapjmaaGreatDoor.keep hb h0, YtlalgaioiapjmaaGreatDoor.keep hb h1, YtlalgaioiapjmaaGreatDoor.keep hb h2, YtlalgaioiapjmaaGreatDoor.keep hb h3, YtlalgaioiapjmaaGreatDoor.keep hb h4, YtlalgaioiapjmaaGreatDoor.keep hb h5, YtlalgaioiapjmaaGreatDoor.keep hb h6, YtlalgaioiapjmaaGreatDoor.keep hb h7, h8.keep hb, h9⟩
def LitsAt (w : World) (a : Option Addr) (n : Nat) (ls : List Lit) : Prop := n ≤ 1353245080303 ∧ SliceAt litAt 8 w a n ls
theorem LitsAt.keep {W w : World} (hb : Ext W w) {a : Option Addr} {n : Nat} {ls : List Lit} (h : LitsAt W a n ls) : LitsAt w a n ls :=
  ⟨h.1, h.2.keep fun _ _ _ => litAt.keep hb⟩

/-- The value of a rule, and what it holds. -/
structure RuleV (w : World) (r : Rule) (ah : Option Addr) (nh ch : Nat) (ab : Option Addr) (nb cb : Nat) : Prop where
  pred : r.head.pred.size ≤ maxLen
  terms : TermsAt w ah nh r.head.terms
  body : LitsAt w ab nb r.body
  hcap : capOk ah nh ch
  bcap : capOk ab nb cb
theorem RuleV.keep {W w : World} (hb : Ext W w) {r : Rule} {ah : Option Addr} {nh ch : Nat} {ab : Option Addr} {nb cb : Nat} (h : RuleV W r ah nh ch ab nb cb) : RuleV w r ah nh ch ab nb cb :=
  ⟨h.pred, h.terms.keep hb, h.body.keep hb, h.hcap, h.bcap⟩

/-- Two terms, part by part, are one. -/
def termEq (k : Int) (s : ByteArray) (k' : Int) (s' : ByteArray) : Bool := decide (k = k' ∧ s = s')
theorem termEq_iff (t t' : Term) : termEq t.kind t.text t'.kind t'.text = decide (t = t') := by
  obtain ⟨k, s⟩ := t
  obtain ⟨k', s'⟩ := t'
  simp [termEq]
theorem eql_term (k k' : Int) (s s' : ByteArray) (w : World) : (binOp .eql 42 (.agg #[.int .i64 k, .string s]) (.agg #[.int .i64 k', .string s'])).run Tryz.prog w = .ok (.bool (termEq k s k' s')) w := by
  have e := toList_eq_iff s s'.toList
  have e2 : (⟨s'.toList.toArray⟩ : ByteArray) = s' := ((toList_eq_iff s' s'.toList).1 rfl).symm
  rw [e2] at e
  simp only [go_sem]
  simp [go_sem]
  by_cases h : k = k' <;> by_cases h2 : s = s' <;> simp [termEq, h, h2, e]
theorem neq_term (k k' : Int) (s s' : ByteArray) (w : World) : (binOp .neq 42 (.agg #[.int .i64 k, .string s]) (.agg #[.int .i64 k', .string s'])).run Tryz.prog w = .ok (.bool (!termEq k s k' s')) w := by
  have e := toList_eq_iff s s'.toList
  have e2 : (⟨s'.toList.toArray⟩ : ByteArray) = s' := ((toList_eq_iff s' s'.toList).1 rfl).symm
  rw [e2] at e
  simp only [go_sem]
  simp [go_sem]
  by_cases h : k = k' <;> by_cases h2 : s = s' <;> simp [termEq, h, h2, e]
end Go.Proofs.YtlalgaioiapjmaaGreatDoor.K
