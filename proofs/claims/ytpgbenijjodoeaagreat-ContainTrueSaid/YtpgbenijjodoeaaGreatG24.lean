/- The walks of a cursor's Key, Count, Keys. The walks of a cursor's Keys and Open. -/
import Derived.Test.YtpgbenijjodoeaaGreatG23
namespace Go.Proofs.YtpgbenijjodoeaaGreat
open Go.ChangeShapes Go.WideShapes Go.ChangeAt Go.RowKit
theorem CurSt.each {d : Nat} {ways : List (List ByteArray)} (hw : Ways d ways) {sp : List (Nat × Nat)} {A B : Nat} (h : CurSt d ways sp A B) (he : endB sp = false) : ∀ (i : Nat) (s : Nat × Nat), sp[i]? = some s → i < d ∧ s.1 < wid ways i ways.length := by
  induction h with
  | one f0 hd hN hf =>
    intro i s hs
    have e2 : endB (([] : List (Nat × Nat)) ++ [(f0, wid ways 0 ways.length)]) = false := he
    rw [endB_snoc] at e2
    have hne : f0 ≠ wid ways 0 ways.length := by simpa using e2
    cases i with
    | zero => cases hs; exact ⟨hd, by show f0 < _; omega⟩
    | succ i => simp at hs
  | more pre0 f0 t0 A0 B0 f2 h0 hlt hd h1 h2 ih =>
    intro i s hs
    have F := h0.facts hw pre0 f0 t0 rfl
    have hb := wid_mono ways pre0.length F.seg.top
    have hj : f0 < wid ways pre0.length ways.length := by have := F.top; omega
    rw [endB_snoc] at he
    have hne : f2 ≠ wid ways (pre0.length + 1) (st ways pre0.length (f0 + 1)) := by simpa using he
    by_cases hi : i < (pre0 ++ [(f0, t0)]).length
    · rw [List.getElem?_append_left hi] at hs
      exact ih (by rw [endB_snoc]; simp; omega) i s hs
    · have hl := (List.getElem?_eq_some_iff.1 hs).1
      rw [List.length_append, List.length_singleton] at hl
      have hi2 : i = (pre0 ++ [(f0, t0)]).length := by omega
      rw [List.getElem?_append_right (by omega), hi2, Nat.sub_self] at hs
      cases hs
      have hl2 : (pre0 ++ [(f0, t0)]).length = pre0.length + 1 := by simp
      rw [hi2, hl2]
      have := wid_mono ways (pre0.length + 1) (st_le ways pre0.length (f0 + 1))
      exact ⟨hd, by show f2 < _; omega⟩
/-- What the walks of Key and Count read. -/
theorem TrieV.reads {w : World} {pt d : Nat} {ways : List (List ByteArray)} {pre : List (Nat × Nat)} {f t A B : Nat} (ht : TrieV w pt d ways) (hf : CurFacts d ways pre f t A B) (hft : f < t) : ∃ gl kb ko kc, w.cell? ⟨pt, 0, none⟩ = some (.slice (some ⟨gl, 0, none⟩) d d) ∧ w.cell? ⟨gl, pre.length * 2, none⟩ = some (.slice (some ⟨kb, ko, none⟩) (wid ways pre.length ways.length) kc) ∧ w.cell? ⟨kb, ko + f, none⟩ = some (.string (keyAt ways pre.length (st ways pre.length f))) ∧ f < wid ways pre.length ways.length := by
  obtain ⟨gl, h0, h1⟩ := ht.keys
  obtain ⟨ka, kc, z1, z2, _, _⟩ := h1 pre.length hf.dep
  have wb := wid_mono ways pre.length hf.seg.top
  have hfN : f < wid ways pre.length ways.length := by have := hf.top; omega
  obtain ⟨y, kb, ko, hy, rfl, hc⟩ := z2.2.at hfN
  rw [keysM_at ways _ f hfN] at hy
  cases hy
  exact ⟨gl, kb, ko, kc, h0, z1, by simpa [strAt] using hc, hfN⟩
end Go.Proofs.YtpgbenijjodoeaaGreat
namespace Go.Proofs.YtpgbenijjodoeaaGreat
open Go.ChangeShapes Go.WideShapes Go.ChangeAt Go.RowKit
theorem CurV.spans {w : World} {lo pc pt : Nat} {rb : Option Nat} {sp : List (Nat × Nat)} (h : CurV w lo pc pt rb sp) (hne : sp ≠ []) : ∃ g c, w.cell? ⟨pc, 0, none⟩ = some (.pointer (some ⟨pt, 0, none⟩)) ∧ w.cell? ⟨pc, 1, none⟩ = some (.slice (some ⟨g, 0, none⟩) sp.length c) ∧ ∀ i s, sp[i]? = some s → w.cell? ⟨g, i * 2, none⟩ = some (.int .i64 (s.1 : Nat)) ∧ w.cell? ⟨g, i * 2 + 1, none⟩ = some (.int .i64 (s.2 : Nat)) := by
  obtain ⟨⟨a, c, h1, h2, h3⟩, _⟩ := h
  rcases h2.2 with ⟨e, e2⟩ | ⟨g, c', cur, e, hb, hg, _⟩
  · exact absurd (List.eq_nil_of_length_eq_zero e2) hne
  · cases e
    refine ⟨g, c, by simp [World.cell?, h1], by simp [World.cell?, h1], fun i s hs => ?_⟩
    obtain ⟨s1, s2⟩ := spV_at sp i s hs
    have c1 := h2.cells (g := g) rfl _ _ s1
    have c2 := h2.cells (g := g) rfl _ _ s2
    rw [Addr.add_lit, Nat.zero_add] at c1 c2
    exact ⟨c1, c2⟩
/-- One text more, at a step of a region that draws its order. -/
theorem step_push_str {ops : Array Oper} {o : Oper} {a : Act} {K : Act → World → Prop} {Q : Exit → Act → World → Prop} {E : Prop} (W0 : World) (z : ByteArray) (base : Nat) (fa : Option Addr) (n fc : Nat) (l : List ByteArray) (hown : W0.ownsRow base 9 1 (.slice fa n fc) n (l.map Value.string)) (hn : n ≤ 1000000) (hbase : base ≤ W0.heap.size) (hgd : o.guard = none) (s x : Operand)
    (ho : o.op = .call { callee := .builtin .append, args := #[s, x], argTypes := #[46, 46] }) (hs : a.eval s = .slice fa n fc) (hx : a.eval x = .slice (some ⟨W0.heap.size, 0, none⟩) 1 1)
    (h : ∀ g cap w', w'.ownsRow base 9 1 (.slice (some ⟨g, 0, none⟩) (n + 1) cap) (n + 1) ((l ++ [z]).map Value.string) → (W0.alloc (.cells #[.string z] 9)).grownBy w' (Value.slice fa n fc).ownBlock → K (a.put o.dst (.slice (some ⟨g, 0, none⟩) (n + 1) cap)) w') :
    if Region.wanted o (yielded ops a.tmps) = true then Oper.wp Tryz.prog o a (W0.alloc (.cells #[.string z] 9)) K Q else E := by
  obtain ⟨j0, hj, yz0, yz1, yz2⟩ := info_parts info_str
  exact step_append_lies _ hgd s x 46 ho base 9 j0 (.string ⟨#[]⟩) 1 16 Tryz.underlying46 hj yz0 yz1 yz2 rfl (by decide) _ n (l.map Value.string) hs (hown.alloc _) ⟨W0.heap.size, 0, none⟩ 1 1 [.string z] hx rfl (news1 W0 _ _) (by simp [Value.oneCell']) (by omega) (by unfold maxLen; omega) (by omega) (by simp; omega) _ rfl fun g cap w1 hown1 hgrow _ _ => h g cap w1 (by rw [List.map_append]; exact hown1) hgrow
end Go.Proofs.YtpgbenijjodoeaaGreat
