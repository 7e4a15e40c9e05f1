/- The walks of slices.Clone, slices.Grow and slices.Concat at terms and literals. -/
import Derived.Test.YtcphjfggjjonpaaOwnR
import Derived.Test.YtcphjfggjjonpaaTurn
import Derived.Shelf.Spec.SlicesGrow
namespace Go.Proofs.Ytcphjfggjjonpaa
open Go.ChangeShapes Go.WideShapes Go.ChangeAt Go.RowKit Go.Shelf
def growL_ren : Go.Shelf.Ren := ⟨fun | 4 => 64 | n => n, fun | 22 => 25 | 25 => 43 | 3 => 3 | 4 => 4 | 9 => 9 | 20 => 20 | 0 => 0 | n => n, fun | n => n⟩
theorem growL : Go.Proofs.Lays8.n4 Try.prog growL_ren := {
  mixed := by kernel_rfl
  f4 := ⟨Try.f64.name, by decide, Try.func64.trans (congrArg some (by kernel_rfl))⟩
  t0 := Try.underlying0
  a0 := Try.isAgg0
  z0 := Try.sizeOf0
  v0 := Try.zeroValue0
  t3 := Try.underlying3
  a3 := Try.isAgg3
  z3 := Try.sizeOf3
  v3 := Try.zeroValue3
  t4 := Try.underlying4
  a4 := Try.isAgg4
  z4 := Try.sizeOf4
  v4 := Try.zeroValue4
  t9 := Try.underlying9
  a9 := Try.isAgg9
  z9 := Try.sizeOf9
  v9 := Try.zeroValue9
  t20 := Try.underlying20
  a20 := Try.isAgg20
  z20 := Try.sizeOf20
  v20 := Try.zeroValue20
  t22 := Try.underlying25
  a22 := Try.isAgg25
  z22 := Try.sizeOf25
  v22 := Try.zeroValue25 }
/-- slices.Grow of the nil slice of literals: room of the call's own. -/
theorem c_growL (n : Nat) (w : World) (hn : n ≤ 1353245080303) : Calls Try.prog 64 #[.slice none 0 0, .int .i64 (n : Int)] w fun e w' => ∃ v, e = .returned v ∧ w'.ownsRow w.heap.size 43 8 v 0 [] ∧ Ext w w' := by
  cases n with
  | zero =>
    refine (Any8.slices_Grow_room growL none 0 0 0 w (Nat.le_refl _) (by decide) (by decide) (Nat.le_refl _)).mono ?_
    rintro e w' ⟨rfl, rfl⟩
    exact ⟨_, rfl, World.ownsRow_nil _ _ _ _, Below.refl _ _⟩
  | succ n =>
    obtain ⟨i0, hi, hz0, hz1, hz2⟩ := info_parts info_lit
    refine (Any8.slices_Grow_grow growL i0 _ hi hz0 (by rw [hz1]; decide) none 0 0 (n + 1) [] w (Nat.le_refl _) (by omega) (by rw [hz2]; omega) (by omega) (by simp) (fun _ => rfl) (fun a e => by cases e)).mono ?_
    rintro e w' ⟨rfl, rfl⟩
    have hge := grownCap_ge w (0 + (n + 1)) 0 (growL_ren.t 25)
    have hle := grownCap_le_maxLen w (0 + (n + 1)) 0 (growL_ren.t 25) (by unfold maxLen; omega)
    refine ⟨_, rfl, ⟨rfl, .inr ⟨w.heap.size, _, _, rfl, Nat.le_refl _, heap_alloc_new w.drew _, Nat.zero_le _, hle, ?_, by simp⟩⟩, ext_alloc (ext_drew (Below.refl _ _)) _⟩
    rw [Array.size_append, Array.size_append, size_zeroCells, size_zeroCells]
    show 0 + _ * 8 + _ * 8 = _ * 8
    omega
/-- A literal, and the address, length and room of its terms. -/
abbrev LitP := Lit × Option Addr × Nat × Nat
def valsP (p : LitP) : List Value := litVals p.1 p.2.1 p.2.2.1 p.2.2.2
def flatP (ps : List LitP) : List Value := ps.flatMap valsP
def okP (w : World) (p : LitP) : Prop := TermsAt w p.2.1 p.2.2.1 p.1.atom.terms ∧ capOk p.2.1 p.2.2.1 p.2.2.2 ∧ p.1.atom.pred.size ≤ maxLen ∧ p.1.left.text.size ≤ maxLen ∧ p.1.right.text.size ≤ maxLen
theorem okP.keep {W w : World} (hb : Ext W w) {p : LitP} (h : okP W p) : okP w p := ⟨h.1.keep hb, h.2⟩
theorem flatP_len (ps : List LitP) : (flatP ps).length = ps.length * 8 := by
  induction ps with
  | nil => rfl
  | cons t ts ih => simp only [flatP, valsP, litVals, List.flatMap_cons, List.length_append, List.length_cons, List.length_nil] at ih ⊢; omega
theorem flatP_append (a b : List LitP) : flatP (a ++ b) = flatP a ++ flatP b := by simp [flatP]
theorem flatP_one (ps : List LitP) : ∀ u ∈ flatP ps, u.oneCell' = true := by
  intro u hu
  obtain ⟨p, _, h⟩ := List.mem_flatMap.1 hu
  simp [valsP, litVals] at h
  rcases h with rfl | rfl | rfl | rfl | rfl | rfl | rfl | rfl <;> rfl
theorem flatP_get (ps : List LitP) (i j : Nat) (p : LitP) (h : ps[i]? = some p) (hj : j < 8) : (flatP ps)[i * 8 + j]? = (valsP p)[j]? := by
  induction ps generalizing i with
  | nil => simp at h
  | cons a ts ih =>
    have e : flatP (a :: ts) = valsP a ++ flatP ts := rfl
    cases i with
    | zero =>
      simp at h
      subst h
      rw [e, Nat.zero_mul, Nat.zero_add, List.getElem?_append_left (by simpa [valsP, litVals] using hj)]
    | succ i =>
      rw [e, show (i + 1) * 8 + j = (i * 8 + j) + 8 by omega, List.getElem?_append_right (by simp [valsP, litVals]), show (i * 8 + j) + 8 - (valsP a).length = i * 8 + j by simp [valsP, litVals]]
      exact ih i (by simpa using h)
theorem choose_list {α β : Type} (P : α → β → Prop) : ∀ (l : List α), (∀ x ∈ l, ∃ y, P x y) → ∃ m : List β, m.length = l.length ∧ ∀ (i : Nat) x y, l[i]? = some x → m[i]? = some y → P x y
  | [], _ => ⟨[], rfl, fun i x y h => by simp at h⟩
  | a :: l, h => by
    obtain ⟨y, hy⟩ := h a (by simp)
    obtain ⟨m, h1, h2⟩ := choose_list P l fun x hx => h x (by simp [hx])
    refine ⟨y :: m, by simp [h1], fun i x z hx hz => ?_⟩
    cases i with
    | zero => simp at hx hz; subst hx hz; exact hy
    | succ i => exact h2 i x z (by simpa using hx) (by simpa using hz)
/-- The literals of a slice with their terms' addresses. -/
theorem LitsAt.parts {w : World} {a : Option Addr} {n : Nat} {ls : List Lit} (h : LitsAt w a n ls) : ∃ ps : List LitP, ps.map (·.1) = ls ∧ (∀ p ∈ ps, okP w p) ∧ ∀ ad, a = some ad → ∀ j u, (flatP ps)[j]? = some u → w.cell? (ad.add j) = some u := by
  have hx : ∀ i : Fin ls.length, ∃ p : LitP, p.1 = ls[i] ∧ okP w p ∧ ∀ b off, a = some ⟨b, off, none⟩ → ∀ j u, (valsP p)[j]? = some u → w.cell? ⟨b, off + i * 8 + j, none⟩ = some u := by
    intro i
    obtain ⟨b, off, ha, a', n', cap, h0, h1, h2, h3, h4, h5, h6, h7, ht, hc, hr⟩ := h.2.2 i ls[i] (List.getElem?_eq_getElem i.2)
    refine ⟨(ls[i], a', n', cap), rfl, ⟨ht, hc, hr⟩, fun b' off' e j u hu => ?_⟩
    rw [ha] at e
    cases e
    have hj : j < 8 := (List.getElem?_eq_some_iff.1 hu).1
    match j, hj with
    | 0, _ => cases hu; exact h0
    | 1, _ => cases hu; exact h1
    | 2, _ => cases hu; exact h2
    | 3, _ => cases hu; exact h3
    | 4, _ => cases hu; exact h4
    | 5, _ => cases hu; exact h5
    | 6, _ => cases hu; exact h6
    | 7, _ => cases hu; exact h7
  let ps : List LitP := List.ofFn fun i => (hx i).choose
  have hps : ∀ (i : Nat) (hi : i < ls.length), ps[i]? = some (hx ⟨i, hi⟩).choose := by
    intro i hi
    simp [ps, hi]
  have hlen : ps.length = ls.length := by simp [ps]
  refine ⟨ps, ?_, ?_, ?_⟩
  · apply List.ext_getElem?
    intro i
    by_cases hi : i < ls.length
    · rw [List.getElem?_map, hps i hi, List.getElem?_eq_getElem hi]
      exact congrArg some (hx ⟨i, hi⟩).choose_spec.1
    · rw [List.getElem?_map, List.getElem?_eq_none (by omega), List.getElem?_eq_none (by omega)]
      rfl
  · intro p hp
    obtain ⟨i, hi⟩ := List.mem_iff_getElem?.1 hp
    have hil : i < ls.length := by rw [← hlen]; exact (List.getElem?_eq_some_iff.1 hi).1
    rw [hps i hil] at hi
    cases hi
    exact (hx ⟨i, hil⟩).choose_spec.2.1
  · intro ad e j u hu
    have hj := (List.getElem?_eq_some_iff.1 hu).1
    rw [flatP_len, hlen] at hj
    have hi : j / 8 < ls.length := by omega
    have hm : j % 8 < 8 := Nat.mod_lt _ (by decide)
    have hg := flatP_get ps (j / 8) (j % 8) _ (hps _ hi) hm
    rw [show j / 8 * 8 + j % 8 = j by omega, hu] at hg
    obtain ⟨b, off, ha, _⟩ := h.2.2 (j / 8) ls[j / 8] (List.getElem?_eq_getElem hi)
    have hc := (hx ⟨j / 8, hi⟩).choose_spec.2.2 b off ha (j % 8) u hg.symm
    rw [ha] at e
    cases e
    rw [Addr.add_lit, show off + j = off + (j / 8) * 8 + j % 8 by omega]
    exact hc
/-- A row of one's own that holds literals. -/
theorem own_litsP {w : World} {base n m cap : Nat} {a : Option Addr} {ps rest : List LitP} (h : w.ownsRow base 43 8 (.slice a m cap) m (flatP (ps ++ rest))) (hn : ps.length = n) (hb : n ≤ 1353245080303) (hp : ∀ p ∈ ps, okP w p) : LitsAt w a n (ps.map (·.1)) := by
  refine ⟨hb, by rw [List.length_map, hn], fun i l hl => ?_⟩
  rw [List.getElem?_map] at hl
  obtain ⟨p, hi, rfl⟩ := Option.map_eq_some_iff.1 hl
  have hil := (List.getElem?_eq_some_iff.1 hi).1
  have hmlen : m * 8 = (ps ++ rest).length * 8 := by have := h.1; rw [flatP_len] at this; omega
  rcases h.2 with ⟨_, h0⟩ | ⟨g, cap', cur, hv, hg0, hg, hc, hrest⟩
  · subst h0
    simp only [List.length_append, Nat.zero_mul] at hmlen
    omega
  · cases hv
    have C : ∀ j u, (valsP p)[j]? = some u → w.cell? ⟨g, 0 + i * 8 + j, none⟩ = some u := by
      intro j u hu
      have hj : j < 8 := (List.getElem?_eq_some_iff.1 hu).1
      have e := flatP_get (ps ++ rest) i j p (by rw [List.getElem?_append_left hil]; exact hi) hj
      have := h.cells (g := g) rfl (i * 8 + j) u (by rw [e]; exact hu)
      rw [Addr.add_lit] at this
      rw [show 0 + i * 8 + j = 0 + (i * 8 + j) by omega]
      exact this
    obtain ⟨l, a', n', c'⟩ := p
    obtain ⟨ht, hcap, hs⟩ := hp _ (List.mem_of_getElem? hi)
    exact ⟨g, 0, rfl, a', n', c', C 0 _ rfl, C 1 _ rfl, C 2 _ rfl, C 3 _ rfl, C 4 _ rfl, C 5 _ rfl, C 6 _ rfl, C 7 _ rfl, ht, hcap, hs⟩
theorem cap_of_own {w : World} {base e size n cap : Nat} {a : Option Addr} {xs : List Value} (h : w.ownsRow base e size (.slice a n cap) n xs) : capOk a n cap := by
  rcases h.2 with ⟨h1, h0⟩ | ⟨g, c', cur, hv, _, _, hc, _⟩
  · cases h1
    exact ⟨Nat.le_refl _, fun _ => ⟨rfl, rfl⟩⟩
  · cases hv
    exact ⟨hc, by intro h; cases h⟩
theorem own_termsO {w : World} {base n cap : Nat} {a : Option Addr} {ts : List Term} (h : w.ownsRow base 37 2 (.slice a n cap) n (flatT ts)) (hb : n ≤ 5864062014634) (hs : ∀ t ∈ ts, t.text.size ≤ maxLen) : TermsAt w a n ts := by
  have hl : ts.length = n := by have := h.1; rw [flatT_len] at this; omega
  rcases h.2 with ⟨h1, h0⟩ | ⟨g, c', cur, hv, hg0, hg, hc, hrest⟩
  · cases h1
    exact ⟨hb, hl, fun i t ht => by have := (List.getElem?_eq_some_iff.1 ht).1; omega⟩
  · cases hv
    exact own_terms (rest := []) (by simpa using h) hl hb hs
theorem nil_eqT (w : World) : (binOp .eql 22 (.slice none 0 0) (.slice none 0 0)).run Try.prog w = .ok (.bool true) w := by kernel_rfl
theorem some_eqT (ad : Addr) (n cap : Nat) (w : World) : (binOp .eql 22 (.slice (some ad) n cap) (.slice none 0 0)).run Try.prog w = .ok (.bool false) w := by kernel_rfl
set_option maxRecDepth 20000 in
theorem c_CloneT (ts : List Term) (a : Option Addr) (n cap : Nat) (w : World) (ha : TermsAt w a n ts) (hc : capOk a n cap) :
    Calls Try.prog 62 #[.slice a n cap] w fun e w' => ∃ a' c', e = .returned (.slice a' n c') ∧ w'.ownsRow w.heap.size 37 2 (.slice a' n c') n (flatT ts) ∧ Ext w w' := by
  have hn := ha.1
  have HA := Lib.hid ha
  have HC := Lib.hid hc
  clear ha hc
  cases a with
  | none =>
    obtain ⟨rfl, rfl⟩ := HC.out.2 rfl
    have eqn := nil_eqT
    go_enter Try.func62, Try.ntmps62
    go_wp2
    go_returns
    obtain rfl : ts = [] := List.eq_nil_of_length_eq_zero HA.out.2.1
    exact ⟨none, 0, rfl, World.ownsRow_nil _ _ _ _, Below.refl _ _⟩
  | some ad =>
    obtain ⟨i0, hi, hz0, hz1, hz2⟩ := info_parts info_term
    have hd3 : 0 + n ≤ maxLen := by unfold maxLen; omega
    have hd4 : (0 + n) * 24 ≤ 140737488355328 := by omega
    have hfl : (flatT ts).length = n * 2 := by rw [flatT_len, HA.out.2.1]
    have hown0 : (w.alloc (.cells #[] 37)).ownsRow w.heap.size 37 2 (.slice (some ⟨w.heap.size, 0, none⟩) 0 0) 0 [] := World.ownsRow_lit w #[] 0 (Nat.le_refl _) (by unfold maxLen; omega) rfl
    have hsrc : ∀ x, some ad = some x → ∀ j u, (flatT ts)[j]? = some u → (w.alloc (.cells #[] 37)).cell? (x.add j) = some u := fun x e => flatT_cell (HA.out.keep (ext_alloc (Below.refl _ _) _)) e
    have HF := Lib.hid hfl
    have H3 := Lib.hid hd3
    have H4 := Lib.hid hd4
    have HSRC := Lib.hid hsrc
    clear hfl hd3 hd4 hsrc
    have eqn := some_eqT ad n cap
    go_enter Try.func62, Try.ntmps62
    go_wp2_with (at_builtin; go_loud (refine wpList_append_any rfl _ _ 22 rfl w.heap.size 37 i0 (.agg #[.int .i64 0, .string ⟨#[]⟩]) 2 24 Try.underlying22 hi hz0 hz1 hz2 rfl (by decide) _ _ _ rfl hown0 (some ad) n cap (flatT ts) rfl HC.out.2 HF.out HSRC.out (flatT_one _) H3.out H4.out (size_alloc_le (Nat.le_refl _)) ?_); intro v1 w1 own1 g1)
    obtain ⟨a1, c1, rfl, _⟩ := own_form own1
    have hb := ext_ownB (ext_alloc (Below.refl _ w : Ext w w) _) g1 (by intro g e; cases e; exact Nat.le_refl _)
    go_returns
    rw [Nat.zero_add, List.nil_append] at own1
    exact ⟨a1, c1, by rw [Nat.zero_add]; rfl, own1, hb⟩
theorem nil_eqL (w : World) : (binOp .eql 25 (.slice none 0 0) (.slice none 0 0)).run Try.prog w = .ok (.bool true) w := by kernel_rfl
theorem some_eqL (ad : Addr) (n cap : Nat) (w : World) : (binOp .eql 25 (.slice (some ad) n cap) (.slice none 0 0)).run Try.prog w = .ok (.bool false) w := by kernel_rfl
set_option maxRecDepth 20000 in
theorem c_CloneL (ps : List LitP) (a : Option Addr) (n cap : Nat) (w : World) (hl : ps.length = n) (hn : n ≤ 1353245080303) (hc : capOk a n cap) (hcells : ∀ ad, a = some ad → ∀ j u, (flatP ps)[j]? = some u → w.cell? (ad.add j) = some u) :
    Calls Try.prog 63 #[.slice a n cap] w fun e w' => ∃ a' c', e = .returned (.slice a' n c') ∧ w'.ownsRow w.heap.size 43 8 (.slice a' n c') n (flatP ps) ∧ Ext w w' := by
  have HC := Lib.hid hc
  clear hc
  cases a with
  | none =>
    obtain ⟨rfl, rfl⟩ := HC.out.2 rfl
    obtain rfl : ps = [] := List.eq_nil_of_length_eq_zero hl
    have eqn := nil_eqL
    go_enter Try.func63, Try.ntmps63
    go_wp2
    go_returns
    exact ⟨none, 0, rfl, World.ownsRow_nil _ _ _ _, Below.refl _ _⟩
  | some ad =>
    obtain ⟨i0, hi, hz0, hz1, hz2⟩ := info_parts info_lit
    have hd3 : 0 + n ≤ maxLen := by unfold maxLen; omega
    have hd4 : (0 + n) * 104 ≤ 140737488355328 := by omega
    have hfl : (flatP ps).length = n * 8 := by rw [flatP_len, hl]
    have hown0 : (w.alloc (.cells #[] 43)).ownsRow w.heap.size 43 8 (.slice (some ⟨w.heap.size, 0, none⟩) 0 0) 0 [] := World.ownsRow_lit w #[] 0 (Nat.le_refl _) (by unfold maxLen; omega) rfl
    have hsrc : ∀ x, some ad = some x → ∀ j u, (flatP ps)[j]? = some u → (w.alloc (.cells #[] 43)).cell? (x.add j) = some u := fun x e j u hu => keep (ext_alloc (Below.refl _ _) _) (hcells x e j u hu)
    have HF := Lib.hid hfl
    have H3 := Lib.hid hd3
    have H4 := Lib.hid hd4
    have HSRC := Lib.hid hsrc
    clear hfl hd3 hd4 hsrc
    have eqn := some_eqL ad n cap
    go_enter Try.func63, Try.ntmps63
    go_wp2_with (at_builtin; go_loud (refine wpList_append_any rfl _ _ 25 rfl w.heap.size 43 i0 (.agg #[.int .i64 0, .string ⟨#[]⟩, .slice none 0 0, .int .i64 0, .int .i64 0, .string ⟨#[]⟩, .int .i64 0, .string ⟨#[]⟩]) 8 104 Try.underlying25 hi hz0 hz1 hz2 rfl (by decide) _ _ _ rfl hown0 (some ad) n cap (flatP ps) rfl HC.out.2 HF.out HSRC.out (flatP_one _) H3.out H4.out (size_alloc_le (Nat.le_refl _)) ?_); intro v1 w1 own1 g1)
    obtain ⟨a1, c1, rfl, _⟩ := own_form own1
    have hb := ext_ownB (ext_alloc (Below.refl _ w : Ext w w) _) g1 (by intro g e; cases e; exact Nat.le_refl _)
    go_returns
    rw [Nat.zero_add, List.nil_append] at own1
    exact ⟨a1, c1, by rw [Nat.zero_add]; rfl, own1, hb⟩
theorem c_growL2 (n m : Nat) (w : World) (hn : n + m ≤ 1353245080303) : Calls Try.prog 64 #[.slice none 0 0, .int .i64 ((n : Int) + (m : Int))] w fun e w' => ∃ v, e = .returned v ∧ w'.ownsRow w.heap.size 43 8 v 0 [] ∧ Ext w w' := Int.natCast_add n m ▸ c_growL (n + m) w hn
set_option maxRecDepth 20000 in
theorem c_Concat (ps qs : List LitP) (b : Nat) (a1 : Option Addr) (n1 c1 : Nat) (a2 : Option Addr) (n2 c2 : Nat) (w : World) (h1 : w.cell? ⟨b, 0, none⟩ = some (.slice a1 n1 c1)) (h2 : w.cell? ⟨b, 1, none⟩ = some (.slice a2 n2 c2)) (hl1 : ps.length = n1) (hl2 : qs.length = n2) (hn : n1 + n2 ≤ 1353245080303) (hc1 : a1 = none → n1 = 0 ∧ c1 = 0) (hc2 : a2 = none → n2 = 0 ∧ c2 = 0)
    (hp : ∀ ad, a1 = some ad → ∀ j u, (flatP ps)[j]? = some u → w.cell? (ad.add j) = some u) (hq : ∀ ad, a2 = some ad → ∀ j u, (flatP qs)[j]? = some u → w.cell? (ad.add j) = some u) :
    Calls Try.prog 54 #[.slice (some ⟨b, 0, none⟩) 2 2] w fun e w' => ∃ a' c', e = .returned (.slice a' (n1 + n2) c') ∧ w'.ownsRow w.heap.size 43 8 (.slice a' (n1 + n2) c') (n1 + n2) (flatP (ps ++ qs)) ∧ Ext w w' := by
  obtain ⟨i0, hi, hz0, hz1, hz2⟩ := info_parts info_lit
  have HP := Lib.hid hp
  have HQ := Lib.hid hq
  have C1 := Lib.hid hc1
  have C2 := Lib.hid hc2
  have L1 := Lib.hid hl1
  have L2 := Lib.hid hl2
  clear hp hq hc1 hc2 hl1 hl2
  go_enter Try.func54, Try.ntmps54
  go_wp2
  go_loopw [3, 11] (fun v i wj => ∃ k : Nat, k ≤ 2 ∧ i = .int .i64 (k : Int) ∧ v = .int .i64 ((if k = 0 then 0 else if k = 1 then n1 else n1 + n2 : Nat) : Int) ∧ wj = w) (fun _ i _ => 2 - (intOf i).toNat)
  case atStart => exact ⟨0, by omega, rfl, rfl, rfl⟩
  case round =>
    obtain ⟨k, hk, rfl, rfl, rfl⟩ := hrel
    have hk3 : k = 0 ∨ k = 1 ∨ k = 2 := by omega
    rcases hk3 with rfl | rfl | rfl
    · go_wp2
      go_roundw
      case rel => exact ⟨1, by omega, by go_num, by simp, by trivial⟩
      case measure => simp [intOf]
    · go_wp2
      go_roundw
      case rel => exact ⟨2, by omega, by go_num, by simp, by trivial⟩
      case measure => simp [intOf]
    · rw [show (if (2 : Nat) = 0 then 0 else if 2 = 1 then n1 else n1 + n2 : Nat) = n1 + n2 by simp]
      obtain ⟨U, rfl⟩ : ∃ U, U = wr := ⟨_, rfl⟩
      go_wp2_with (go_at_call 64; (with_reducible refine (c_growL2 n1 n2 U hn).mono ?_); rintro e w1 ⟨v1, rfl, own1, hb1⟩; have g1 := keep hb1 h1; have g2 := keep hb1 h2)
      have O1 := Lib.hid own1
      have B1 := Lib.hid hb1
      clear own1
      go_loopw [6, 27] (fun v i wj => ∃ k : Nat, k ≤ 2 ∧ i = .int .i64 (k : Int) ∧ Ext U wj ∧ wj.ownsRow U.heap.size 43 8 v (if k = 0 then 0 else if k = 1 then n1 else n1 + n2) (if k = 0 then [] else if k = 1 then flatP ps else flatP (ps ++ qs))) (fun _ i _ => 2 - (intOf i).toNat)
      case atStart => exact ⟨0, by omega, rfl, B1.out, O1.out⟩
      case round =>
        obtain ⟨k, hk, rfl, hb2, own2⟩ := hrel
        have g1 := keep hb2 h1
        have g2 := keep hb2 h2
        have hk3 : k = 0 ∨ k = 1 ∨ k = 2 := by omega
        rcases hk3 with rfl | rfl | rfl
        · simp only [if_true] at own2
          go_wp2_with (at_builtin; go_loud (refine wpList_append_any rfl _ _ 25 rfl U.heap.size 43 i0 (.agg #[.int .i64 0, .string ⟨#[]⟩, .slice none 0 0, .int .i64 0, .int .i64 0, .string ⟨#[]⟩, .int .i64 0, .string ⟨#[]⟩]) 8 104 Try.underlying25 hi hz0 hz1 hz2 rfl (by decide) _ _ _ rfl own2 a1 n1 c1 (flatP ps) rfl C1.out (by rw [flatP_len, L1.out]) (fun x e j u hu => keep hb2 (HP.out x e j u hu)) (flatP_one _) (by unfold maxLen; omega) (by omega) hb2.size ?_); intro v4 w4 own4 g4)
          go_roundw
          case rel => exact ⟨1, by omega, by go_num, ext_ownB hb2 g4 (fun g e => (own2.lt g e).1), by simpa using own4⟩
          case measure => simp [intOf]
        · simp only [if_true, if_neg (by decide : ¬ (1 : Nat) = 0)] at own2
          go_wp2_with (at_builtin; go_loud (refine wpList_append_any rfl _ _ 25 rfl U.heap.size 43 i0 (.agg #[.int .i64 0, .string ⟨#[]⟩, .slice none 0 0, .int .i64 0, .int .i64 0, .string ⟨#[]⟩, .int .i64 0, .string ⟨#[]⟩]) 8 104 Try.underlying25 hi hz0 hz1 hz2 rfl (by decide) _ _ _ rfl own2 a2 n2 c2 (flatP qs) rfl C2.out (by rw [flatP_len, L2.out]) (fun x e j u hu => keep hb2 (HQ.out x e j u hu)) (flatP_one _) (by unfold maxLen; omega) (by omega) hb2.size ?_); intro v4 w4 own4 g4)
          go_roundw
          case rel => exact ⟨2, by omega, by go_num, ext_ownB hb2 g4 (fun g e => (own2.lt g e).1), by simpa [flatP_append] using own4⟩
          case measure => simp [intOf]
        · simp only [if_neg (by decide : ¬ (2 : Nat) = 0), if_neg (by decide : ¬ (2 : Nat) = 1)] at own2
          obtain ⟨a', c', rfl, _⟩ := own_form own2
          go_wp2
          go_returns
          exact ⟨a', c', rfl, own2, hb2⟩
end Go.Proofs.Ytcphjfggjjonpaa
