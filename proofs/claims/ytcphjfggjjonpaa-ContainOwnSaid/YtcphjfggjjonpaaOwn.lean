/- Copies: append of whatever slice onto one of the call's own; the walks of the law's ownAtom and own. -/
import Derived.Test.YtcphjfggjjonpaaWithin
import Derived.Laws.AppendOwnNone
namespace Go.Proofs.Ytcphjfggjjonpaa
open Go.ChangeShapes Go.WideShapes Go.ChangeAt Go.RowKit
section
variable {P : Program} {w : World}
theorem wpList_append_any {ops : Array Oper} {rest : List Oper} {o : Oper} {a : Act} {Q : Exit → Act → World → Prop} (hgd : o.guard = none) (s x : Operand) (t : TypeId)
    (ho : o.op = .call { callee := .builtin .append, args := #[s, x], argTypes := #[t, t] })
    (base : Nat) (e : TypeId) (i : TypeInfo) (z : Value) (size bytes : Nat) (ht : P.underlying t = some (.slice e)) (hi : P.info? e = some i) (hz : i.zero = some z)
    (hsize : i.size = size) (hby : i.bytes = bytes) (hzs : z.cells.size = size) (hsz : 0 < size)
    (v : Value) (n : Nat) (xs : List Value) (hs : a.eval s = v) (hown : w.ownsRow base e size v n xs)
    (aa : Option Addr) (m c : Nat) (news : List Value) (hx : a.eval x = .slice aa m c) (hnil : aa = none → m = 0 ∧ c = 0) (hl : news.length = m * size)
    (hnews : ∀ ad, aa = some ad → ∀ j u, news[j]? = some u → w.cell? (ad.add j) = some u) (h1 : ∀ u ∈ news, u.oneCell' = true)
    (h63 : n + m ≤ maxLen) (hbytes : (n + m) * bytes ≤ 140737488355328) (hbase : base ≤ w.heap.size)
    (h : ∀ v' w', w'.ownsRow base e size v' (n + m) (xs ++ news) → w.grownBy w' v.ownBlock → wpList P ops Q rest (a.put o.dst v') w') : wpList P ops Q (o :: rest) a w := by
  cases aa with
  | none =>
    obtain ⟨rfl, rfl⟩ := hnil rfl
    obtain rfl : news = [] := List.eq_nil_of_length_eq_zero (by simpa using hl)
    refine wpList_append_own_none hgd s x t ho base e i size ht hi v n xs hs hown hx (h v w (by simpa using hown) ⟨rfl, rfl, rfl, Nat.le_refl _, fun _ _ _ => rfl⟩)
  | some ad =>
    exact wpList_append_own w hgd s x t ho base e i z size bytes ht hi hz hsize hby hzs hsz v n xs hs hown ad m c news hx hl (hnews ad rfl) h1 h63 hbytes hbase fun v' w' h2 h3 _ => h v' w' h2 h3
end
def flatT (ts : List Term) : List Value := ts.flatMap fun t => [.int .i64 t.kind, .string t.text]
theorem flatT_len (ts : List Term) : (flatT ts).length = ts.length * 2 := by
  induction ts with
  | nil => rfl
  | cons t ts ih => simp only [flatT, List.flatMap_cons, List.length_append, List.length_cons, List.length_nil] at ih ⊢; omega
theorem flatT_append (a b : List Term) : flatT (a ++ b) = flatT a ++ flatT b := by simp [flatT]
theorem flatT_one (ts : List Term) : ∀ u ∈ flatT ts, u.oneCell' = true := by
  intro u hu
  obtain ⟨t, _, h⟩ := List.mem_flatMap.1 hu
  simp at h
  rcases h with rfl | rfl <;> rfl
theorem flatT_get (ts : List Term) (i : Nat) (t : Term) (h : ts[i]? = some t) : (flatT ts)[i * 2]? = some (.int .i64 t.kind) ∧ (flatT ts)[i * 2 + 1]? = some (.string t.text) := by
  induction ts generalizing i with
  | nil => simp at h
  | cons a ts ih =>
    cases i with
    | zero => simp at h; subst h; simp [flatT]
    | succ i =>
      have := ih i (by simpa using h)
      have e : (flatT (a :: ts)) = [.int .i64 a.kind, .string a.text] ++ flatT ts := by simp [flatT]
      rw [e, show (i + 1) * 2 = i * 2 + 2 by omega, show i * 2 + 2 + 1 = (i * 2 + 1) + 2 by omega]
      simpa using this
theorem flatT_cell {w : World} {a : Option Addr} {n : Nat} {ts : List Term} (h : TermsAt w a n ts) {ad : Addr} (ha : a = some ad) : ∀ j u, (flatT ts)[j]? = some u → w.cell? (ad.add j) = some u := by
  intro j u hu
  have hj := (List.getElem?_eq_some_iff.1 hu).1
  rw [flatT_len] at hj
  have hi : j / 2 < ts.length := by omega
  obtain ⟨b, off, e, h1, h2, _⟩ := h.2.2 (j / 2) ts[j / 2] (List.getElem?_eq_getElem hi)
  rw [ha] at e
  cases e
  obtain ⟨g1, g2⟩ := flatT_get ts (j / 2) _ (List.getElem?_eq_getElem hi)
  rw [Addr.add_lit]
  rcases Nat.mod_two_eq_zero_or_one j with hm | hm
  · have e : j / 2 * 2 = j := by omega
    rw [e] at g1 h1
    rw [g1] at hu
    cases hu
    exact h1
  · have e : j / 2 * 2 + 1 = j := by omega
    rw [e] at g2
    have e2 : off + j / 2 * 2 + 1 = off + j := by omega
    rw [e2] at h2
    rw [g2] at hu
    cases hu
    exact h2
theorem own_terms {w : World} {base n cap m : Nat} {g : Nat} {ts rest : List Term} (h : w.ownsRow base 37 2 (.slice (some ⟨g, 0, none⟩) m cap) m (flatT (ts ++ rest))) (hn : ts.length = n) (hb : n ≤ 5864062014634) (hs : ∀ t ∈ ts, t.text.size ≤ maxLen) : TermsAt w (some ⟨g, 0, none⟩) n ts := by
  refine ⟨hb, hn, fun i t ht => ⟨g, 0, rfl, ?_, ?_, hs t (List.mem_of_getElem? ht)⟩⟩
  · obtain ⟨g1, _⟩ := flatT_get (ts ++ rest) i t (by rw [List.getElem?_append_left (List.getElem?_eq_some_iff.1 ht).1]; exact ht)
    have := h.cells (g := g) rfl _ _ g1
    rw [Addr.add_lit] at this
    exact this
  · obtain ⟨_, g2⟩ := flatT_get (ts ++ rest) i t (by rw [List.getElem?_append_left (List.getElem?_eq_some_iff.1 ht).1]; exact ht)
    have := h.cells (g := g) rfl _ _ g2
    rw [Addr.add_lit] at this
    rw [Nat.add_assoc]
    exact this
theorem TermsAt.texts {w : World} {a : Option Addr} {n : Nat} {ts : List Term} (h : TermsAt w a n ts) : ∀ t ∈ ts, t.text.size ≤ maxLen := by
  intro t ht
  obtain ⟨i, hi, rfl⟩ := List.getElem_of_mem ht
  obtain ⟨_, _, _, _, _, h3⟩ := h.2.2 i _ (List.getElem?_eq_getElem hi)
  exact h3
/-- The mark behind a list of terms. -/
def markT : Term := ⟨-77, ⟨#[]⟩⟩
/-- What ownAtom hands back: the terms in a row of the call's own, the mark behind them. -/
def OwnT (w : World) (base : Nat) (ts : List Term) (g cap : Nat) : Prop :=
  w.ownsRow base 37 2 (.slice (some ⟨g, 0, none⟩) (ts.length + 1) cap) (ts.length + 1) (flatT (ts ++ [markT])) ∧ ts.length + 1 ≤ cap
theorem info_term : (Try.prog.info? 37).map (fun i => (i.zero, i.size, i.bytes)) = some (some (.agg #[.int .i64 0, .string ⟨#[]⟩]), 2, 24) := by kernel_rfl
theorem ext_ownB {W w w' : World} {row : Option Nat} (h : Ext W w) (k : w.grownBy w' row) (ho : ∀ g, row = some g → W.heap.size ≤ g) : Ext W w' :=
  ⟨k.os.trans h.os, k.tape.trans h.tape, k.output.trans h.output, Nat.le_trans h.size k.size, fun i hi => (k.block i (Nat.lt_of_lt_of_le hi h.size) (fun e => by have := ho i e.symm; omega)).trans (h.block i hi)⟩
theorem own_formS {w : World} {base n size : Nat} {e : TypeId} {v : Value} {xs : List Value} (h : w.ownsRow base e size v n xs) (hn : 0 < n) : ∃ g cap, v = .slice (some ⟨g, 0, none⟩) n cap ∧ n ≤ cap := by
  rcases h.2 with ⟨_, h0⟩ | ⟨g, cap, cur, hv, hb, hg, hc, _⟩
  · omega
  · exact ⟨g, cap, hv, hc⟩
theorem set2_read {w : World} {b c : Nat} (hbc : b ≠ c) {u0 u1 : Value} (h0 : w.cell? ⟨c, 0, none⟩ = some u0) (h1 : w.cell? ⟨c, 1, none⟩ = some u1) (v p : Value) :
    ((w.setCell ⟨b, 1, none⟩ v).setCell ⟨c, 0, none⟩ p).cell? ⟨c, 0, none⟩ = some p ∧ ((w.setCell ⟨b, 1, none⟩ v).setCell ⟨c, 0, none⟩ p).cell? ⟨c, 1, none⟩ = some u1 := by
  have o0 : (w.setCell ⟨b, 1, none⟩ v).cell? ⟨c, 0, none⟩ = some u0 := by rw [World.cell?_setCell_other]; exact h0; simp
  have o1 : (w.setCell ⟨b, 1, none⟩ v).cell? ⟨c, 1, none⟩ = some u1 := by rw [World.cell?_setCell_other]; exact h1; exact fun e => hbc (congrArg Addr.block e)
  refine ⟨World.cell?_setCell_same _ _ _ o0, ?_⟩
  rw [World.cell?_setCell_other]; exact o1; simp
theorem mark_cell (w : World) : ∀ ad, some (⟨w.heap.size, 0, none⟩ : Addr) = some ad → ∀ j u, (flatT [markT])[j]? = some u → (w.alloc (.cells #[.int .i64 (-77), .string ⟨#[]⟩] 37)).cell? (ad.add j) = some u := by
  intro ad e j u hu
  cases e
  have hj := (List.getElem?_eq_some_iff.1 hu).1
  rw [flatT_len] at hj
  simp at hj
  rw [Addr.add_lit, World.cell?_alloc_new]
  match j, hj with
  | 0, _ => simpa [flatT, markT] using hu
  | 1, _ => simpa [flatT, markT] using hu
set_option maxRecDepth 20000 in
theorem c_ownAtom (a : Atom) (aa : Option Addr) (n cap : Nat) (w : World) (ha : TermsAt w aa n a.terms) (hc : capOk aa n cap) :
    Calls Try.prog 40 #[.agg #[.string a.pred, .slice aa n cap]] w fun e w' => ∃ g c, e = .returned (.agg #[.string a.pred, .slice (some ⟨g, 0, none⟩) n c]) ∧ OwnT w' w.heap.size a.terms g c ∧ Ext w w' := by
  have hn := ha.1
  have HA := Lib.hid ha
  have HL := Lib.hid ha.2.1
  have HC := Lib.hid hc
  clear ha hc
  obtain ⟨i0, hi, hz0, hz1, hz2⟩ := info_parts info_term
  have hd3 : 0 + n ≤ maxLen := by unfold maxLen; omega
  have hd4 : (0 + n) * 24 ≤ 140737488355328 := by omega
  have hfl : (flatT a.terms).length = n * 2 := by rw [flatT_len, HL.out]
  have HF := Lib.hid hfl
  have H3 := Lib.hid hd3
  have H4 := Lib.hid hd4
  have HN := Lib.hid hn
  clear hfl hd3 hd4 hn
  go_enter Try.func40, Try.ntmps40
  go_upto_region 1 with (fail)
  refine wp_gen (fun W hW => ?_)
  have hb0 : Ext w W := by rw [hW]; go_grown
  have x0 : W.cell? ⟨w.heap.size, 0, none⟩ = some (.string a.pred) := by rw [hW]; go_simp
  have x1 : W.cell? ⟨w.heap.size, 1, none⟩ = some (.slice aa n cap) := by rw [hW]; go_simp
  have xz : W.cell? ⟨w.heap.size + 1, 0, none⟩ = some (.string ⟨#[]⟩) := by rw [hW]; go_simp
  have xz1 : W.cell? ⟨w.heap.size + 1, 1, none⟩ = some (.slice none 0 0) := by rw [hW]; go_simp
  have hz : w.heap.size + 1 < W.heap.size := World.block_lt_of_cell? _ _ xz
  have hz' : w.heap.size < W.heap.size := by omega
  have f1 : W.frozen? ⟨w.heap.size, 1, none⟩ = false := by rw [hW]; go_simp
  have f2 : W.frozen? ⟨w.heap.size + 1, 0, none⟩ = false := by rw [hW]; go_simp
  have f3 : W.frozen? ⟨w.heap.size + 1, 1, none⟩ = false := by rw [hW]; go_simp
  clear hW
  have hown0 : (W.alloc (.cells #[] 37)).ownsRow W.heap.size 37 2 (.slice (some ⟨W.heap.size, 0, none⟩) 0 0) 0 [] := World.ownsRow_lit W #[] 0 (Nat.le_refl _) (by unfold maxLen; omega) rfl
  have hsrc : ∀ ad, aa = some ad → ∀ j u, (flatT a.terms)[j]? = some u → (W.alloc (.cells #[] 37)).cell? (ad.add j) = some u := fun ad e => flatT_cell (HA.out.keep (ext_alloc hb0 _)) e
  have HSRC := Lib.hid hsrc
  clear hsrc
  have hk1 : (0 + n) + 1 ≤ maxLen := by have := HN.out; unfold maxLen; omega
  have hk2 : ((0 + n) + 1) * 24 ≤ 140737488355328 := by have := HN.out; omega
  have K1 := Lib.hid hk1
  have K2 := Lib.hid hk2
  clear hk1 hk2
  go_wp2_with (first | (at_builtin; refine wpList_append_any rfl _ _ 22 rfl W.heap.size 37 i0 (.agg #[.int .i64 0, .string ⟨#[]⟩]) 2 24 Try.underlying22 hi hz0 hz1 hz2 rfl (by decide) _ _ _ rfl hown0 aa n cap (flatT a.terms) rfl HC.out.2 HF.out HSRC.out (flatT_one _) H3.out H4.out (size_alloc_le (Nat.le_refl _)) ?_; intro v1 w1 own1 g1) | (at_builtin; go_loud (refine wpList_append_any rfl _ _ 22 rfl W.heap.size 37 i0 (.agg #[.int .i64 0, .string ⟨#[]⟩]) 2 24 Try.underlying22 hi hz0 hz1 hz2 rfl (by decide) _ _ _ rfl (own1.alloc _) (some ⟨w1.heap.size, 0, none⟩) 1 1 (flatT [markT]) rfl (by intro h; cases h) rfl (mark_cell w1) (flatT_one _) K1.out K2.out (size_alloc_le (Nat.le_trans (size_alloc_le (Nat.le_refl _)) g1.size)) ?_); intro v2 w2 own2 g2; have hb2 : Ext W w2 := ext_ownB (ext_alloc (ext_ownB (ext_alloc (Below.refl _ W : Ext W W) _) g1 (by intro g e; cases e; exact Nat.le_refl _)) _) g2 (fun g e => (own1.lt g e).1); have y0 := keep hb2 x0; have y1 := keep hb2 x1; have yz := keep hb2 xz; have yz1 := keep hb2 xz1; have hz2' := Nat.lt_of_lt_of_le hz hb2.size; have hz2 := Nat.lt_of_lt_of_le hz' hb2.size; have k1 := (hb2.frozen (p := ⟨w.heap.size, 1, none⟩) hz').trans f1; have k2 := (hb2.frozen (p := ⟨w.heap.size + 1, 0, none⟩) hz).trans f2; have k3 := (hb2.frozen (p := ⟨w.heap.size + 1, 1, none⟩) hz).trans f3; obtain ⟨a2, c2, rfl, hc2⟩ := own_form own2))
  have O1 := ownsRow_setCell_below own2 (a := ⟨w.heap.size, 1, none⟩) hz' (.slice a2 n c2)
  have O2 := ownsRow_setCell_below O1 (a := ⟨w.heap.size + 1, 0, none⟩) hz (.string a.pred)
  have O3 := ownsRow_setCell_below O2 (a := ⟨w.heap.size + 1, 1, none⟩) hz (.slice a2 n c2)
  have E3 : Ext w (((w2.setCell ⟨w.heap.size, 1, none⟩ (.slice a2 n c2)).setCell ⟨w.heap.size + 1, 0, none⟩ (.string a.pred)).setCell ⟨w.heap.size + 1, 1, none⟩ (.slice a2 n c2)) :=
    ext_set (ext_set (ext_set (ext_trans hb0 hb2) (Nat.le_refl _) _) (Nat.le_succ _) _) (Nat.le_succ _) _
  obtain ⟨g, c3, e3, hg1⟩ := own_formS O3 (Nat.succ_pos _)
  cases e3
  obtain ⟨R0, R1⟩ := set2_read (b := w.heap.size) (c := w.heap.size + 1) (by omega) yz yz1 (.slice (some ⟨g, 0, none⟩) n c2) (.string a.pred)
  have S1 := World.cell?_setCell_same _ _ (.slice (some ⟨g, 0, none⟩) n c2) R1
  have S0 : (((w2.setCell ⟨w.heap.size, 1, none⟩ (.slice (some ⟨g, 0, none⟩) n c2)).setCell ⟨w.heap.size + 1, 0, none⟩ (.string a.pred)).setCell ⟨w.heap.size + 1, 1, none⟩ (.slice (some ⟨g, 0, none⟩) n c2)).cell? ⟨w.heap.size + 1, 0, none⟩ = some (.string a.pred) := by
    rw [World.cell?_setCell_other]; exact R0; simp
  clear R0 R1 O1 O2
  generalize (((w2.setCell ⟨w.heap.size, 1, none⟩ (.slice (some ⟨g, 0, none⟩) n c2)).setCell ⟨w.heap.size + 1, 0, none⟩ (.string a.pred)).setCell ⟨w.heap.size + 1, 1, none⟩ (.slice (some ⟨g, 0, none⟩) n c2)) = W4 at O3 E3 S0 S1 ⊢
  refine bodyPost_ret (by simp [results, Try.results40, go_sem, S0, S1]; try rfl) rfl ?_
  refine ⟨g, c2, rfl, ⟨own_base (base := W.heap.size) ?_ hb0.size, ?_⟩, E3⟩
  · rw [HL.out, flatT_append]; simpa using O3
  · rw [HL.out]; omega
end Go.Proofs.Ytcphjfggjjonpaa
