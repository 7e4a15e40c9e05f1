/- The walk of spoil: all lists of a rule of one's own are written over; nothing else is. -/
import Derived.Test.YtcphjfggjjonpaaLays
import Derived.Test.YtcphjfggjjonpaaDMin
namespace Go.Proofs.Ytcphjfggjjonpaa
open Go.ChangeShapes Go.WideShapes Go.ChangeAt Go.RowKit
/-- A row, whatever it holds. -/
def AnyRow (w : World) (base : Nat) (e : TypeId) (size : Nat) (g n cap : Nat) : Prop := ∃ xs, w.ownsRow base e size (.slice (some ⟨g, 0, none⟩) n cap) n xs
theorem AnyRow.set {w : World} {base : Nat} {e : TypeId} {size g n cap : Nat} (h : AnyRow w base e size g n cap) (b j : Nat) (u : Value) : AnyRow (w.setCell ⟨b, j, none⟩ u) base e size g n cap := by
  obtain ⟨xs, h⟩ := h
  by_cases hb : b = g
  · subst hb
    exact ⟨_, (h.stored j u).1⟩
  · exact ⟨xs, own_set_other h (a := ⟨b, j, none⟩) (.inr fun e => by simp [Value.ownBlock] at e; exact hb e.symm) u⟩
theorem AnyRow.cell {w : World} {base : Nat} {e : TypeId} {size g n cap : Nat} (h : AnyRow w base e size g n cap) {j : Nat} (hj : j < n * size) : ∃ u, w.cell? ⟨g, j, none⟩ = some u := by
  obtain ⟨xs, h⟩ := h
  rw [h.cellAt j hj]
  have := h.1
  exact ⟨_, List.getElem?_eq_getElem (by omega)⟩
theorem AnyRow.free {w : World} {base : Nat} {e : TypeId} {size g n cap : Nat} (h : AnyRow w base e size g n cap) (j : Nat) : w.frozen? ⟨g, j, none⟩ = false := by
  obtain ⟨xs, h⟩ := h
  exact h.frozenAt j
theorem AnyRow.ne {w : World} {b1 b2 : Nat} {e1 e2 : TypeId} {s1 s2 g1 g2 n1 n2 c1 c2 : Nat} (h : AnyRow w b1 e1 s1 g1 n1 c1) (k : AnyRow w b2 e2 s2 g2 n2 c2) (hne : e1 ≠ e2) : g1 ≠ g2 := by
  obtain ⟨xs, h⟩ := h
  obtain ⟨ys, k⟩ := k
  intro e
  subst e
  rcases own_apart h k hne with h1 | h1
  · cases h1
  · exact h1 rfl
theorem AnyRow.at {w : World} {base : Nat} {e : TypeId} {size g n cap : Nat} (h : AnyRow w base e size g n cap) : base ≤ g ∧ g < w.heap.size := by
  obtain ⟨xs, h⟩ := h
  exact h.lt g rfl
/-- While the lists are written over. -/
structure SpSt (W : World) (base hi : Nat) (r : Rule) (gh ch gb cb : Nat) (ps : List (Lit × Nat × Nat)) (i : Nat) (w : World) : Prop where
  low : Below base W w
  high : HeapSame hi W.heap.size W w
  head : AnyRow w base 37 2 gh (r.head.terms.length + 1) ch
  body : AnyRow w base 43 8 gb (ps.length + 1) cb
  terms : ∀ p ∈ ps, AnyRow w base 37 2 p.2.1 (p.1.atom.terms.length + 1) p.2.2
  rest : ∀ (j : Nat) p, i ≤ j → ps[j]? = some p → w.cell? ⟨gb, j * 8 + 2, none⟩ = some (.slice (some ⟨p.2.1, 0, none⟩) p.1.atom.terms.length p.2.2)
theorem below_set {base : Nat} {W w : World} (h : Below base W w) {b j : Nat} (hb : base ≤ b) (u : Value) : Below base W (w.setCell ⟨b, j, none⟩ u) := h.setCell (p := ⟨b, j, none⟩) hb u
theorem SpSt.setT {W : World} {base hi : Nat} {r : Rule} {gh ch gb cb : Nat} {ps : List (Lit × Nat × Nat)} {i : Nat} {w : World} (h : SpSt W base hi r gh ch gb cb ps i w) {b : Nat} (h1 : base ≤ b) (h2 : b < hi) (hne : b ≠ gb) (j : Nat) (u : Value) : SpSt W base hi r gh ch gb cb ps i (w.setCell ⟨b, j, none⟩ u) :=
  ⟨below_set h.low h1 u, h.high.set (p := ⟨b, j, none⟩) (.inl h2) u, h.head.set b j u, h.body.set b j u, fun p hp => (h.terms p hp).set b j u, fun k p hk hp => by
    rw [World.cell?_setCell_far _ _ _ _ (show b ≠ gb from hne)]
    exact h.rest k p hk hp⟩
theorem SpSt.setL {W : World} {base hi : Nat} {r : Rule} {gh ch gb cb : Nat} {ps : List (Lit × Nat × Nat)} {i : Nat} {w : World} (h : SpSt W base hi r gh ch gb cb ps i w) (h1 : base ≤ gb) (h2 : gb < hi) {j : Nat} (hj : j < i * 8) (u : Value) : SpSt W base hi r gh ch gb cb ps i (w.setCell ⟨gb, j, none⟩ u) :=
  ⟨below_set h.low h1 u, h.high.set (p := ⟨gb, j, none⟩) (.inl h2) u, h.head.set gb j u, h.body.set gb j u, fun p hp => (h.terms p hp).set gb j u, fun k p hk hp => by
    rw [World.cell?_setCell_other _ _ _ _ (by intro e; have := congrArg Addr.off e; dsimp only at this; omega)]
    exact h.rest k p hk hp⟩
theorem SpSt.up {W : World} {base hi : Nat} {r : Rule} {gh ch gb cb : Nat} {ps : List (Lit × Nat × Nat)} {i : Nat} {w : World} (h : SpSt W base hi r gh ch gb cb ps i w) : SpSt W base hi r gh ch gb cb ps (i + 1) w :=
  ⟨h.low, h.high, h.head, h.body, h.terms, fun k p hk hp => h.rest k p (by omega) hp⟩
theorem SpSt.old {W : World} {base hi : Nat} {r : Rule} {gh ch gb cb : Nat} {ps : List (Lit × Nat × Nat)} {i : Nat} {w : World} (h : SpSt W base hi r gh ch gb cb ps i w) {b o : Nat} {v : Value} (hb : hi ≤ b) (hc : W.cell? ⟨b, o, none⟩ = some v) : w.cell? ⟨b, o, none⟩ = some v := by
  have hl : b < W.heap.size := World.block_lt_of_cell? W ⟨b, o, none⟩ hc
  rw [← hc]
  exact World.cell?_of_block (h.high b hb hl)
set_option maxRecDepth 20000 in
set_option maxHeartbeats 4000000 in
theorem c_spoil (r : Rule) (gh nh ch gb nb cb : Nat) (base hi : Nat) (w0 w : World) (ho : OwnR w0 base r gh ch gb cb) (hh : w0.heap.size = hi) (he : Ext w0 w) (hnh : r.head.terms.length = nh) (hnb : r.body.length = nb) (hbn : nb ≤ 1353245080303) (htn : ∀ l ∈ r.body, l.atom.terms.length ≤ 5864062014634) (hhn : nh ≤ 5864062014634) :
    Calls Try.prog 28 #[.agg #[.string r.head.pred, .slice (some ⟨gh, 0, none⟩) nh ch, .slice (some ⟨gb, 0, none⟩) nb cb]] w fun e w' => e = .returned (.tuple #[]) ∧ Below base w w' ∧ HeapSame hi w.heap.size w w' := by
  go_enter Try.func28, Try.ntmps28
  go_upto_region 1 with (fail)
  refine wp_gen (fun W hW => ?_)
  have hb0 : Ext w W := by rw [hW]; go_grown
  have sW : W.heap.size = w.heap.size + 1 := by rw [hW]; simp
  have x0 : W.cell? ⟨w.heap.size, 0, none⟩ = some (.string r.head.pred) := by rw [hW]; go_simp
  have x1 : W.cell? ⟨w.heap.size, 1, none⟩ = some (.slice (some ⟨gh, 0, none⟩) nh ch) := by rw [hW]; go_simp
  have x2 : W.cell? ⟨w.heap.size, 2, none⟩ = some (.slice (some ⟨gb, 0, none⟩) nb cb) := by rw [hW]; go_simp
  have hw : hi ≤ w.heap.size := by rw [← hh]; exact he.size
  obtain ⟨ps, hps, hL, hT⟩ := ho.body
  have hpl : ps.length = nb := by
    have h5 : (ps.map (·.1)).length = ps.length := List.length_map _
    rw [hps] at h5
    omega
  have e0 := ext_trans he hb0
  have st : SpSt W base hi r gh ch gb cb ps 0 W := by
    refine ⟨Below.refl _ _, HeapSame.refl _ _ _, ⟨_, up_ext ho.head.1 e0⟩, ⟨_, up_ext hL.1 e0⟩, fun p hp => ⟨_, up_ext (hT p hp).1 e0⟩, fun j p _ hp => ?_⟩
    have h1 := hL.1.cells (g := gb) rfl (j * 8 + 2) (.slice (some ⟨p.2.1, 0, none⟩) p.1.atom.terms.length p.2.2) (by
      rw [List.getElem?_append_left (by rw [flatL_len]; have := (List.getElem?_eq_some_iff.1 hp).1; omega), flatL_get ps j 2 p hp (by decide)]
      rfl)
    rw [Addr.add_lit, Nat.zero_add] at h1
    exact keep e0 h1
  have bh : base ≤ gh ∧ gh < hi := by rw [← hh]; exact ho.head.1.lt gh rfl
  have bb : base ≤ gb ∧ gb < hi := by rw [← hh]; exact hL.1.lt gb rfl
  have bt : ∀ p ∈ ps, base ≤ p.2.1 ∧ p.2.1 < hi := fun p hp => by rw [← hh]; exact (hT p hp).1.lt p.2.1 rfl
  have hmem : ∀ (i : Nat) p, ps[i]? = some p → p.1.atom.terms.length ≤ 5864062014634 := fun i p hp => htn p.1 (by rw [← hps]; exact List.mem_map.2 ⟨p, List.mem_of_getElem? hp, rfl⟩)
  have HS := Lib.hid st
  have BH := Lib.hid bh
  have BB := Lib.hid bb
  have BT := Lib.hid bt
  have HM := Lib.hid hmem
  have HPL := Lib.hid hpl
  have HNH := Lib.hid hnh
  have HB0 := Lib.hid hb0
  have SW := Lib.hid sW
  clear hW st bh bb bt hmem hpl hnh hnb hps hL hT e0 ho he hh hb0 htn sW
  go_wp2
  go_loopw [2] (fun v wj => ∃ k : Nat, k ≤ nh ∧ v = .int .i64 (k : Int) ∧ SpSt W base hi r gh ch gb cb ps 0 wj) (fun v _ => nh - (intOf v).toNat)
  case atStart => exact ⟨0, by omega, rfl, HS.out⟩
  case round =>
    obtain ⟨k, hk, rfl, hs⟩ := hrel
    have y1 := hs.old hw x1
    have y2 := hs.old hw x2
    have HSk := Lib.hid hs
    clear hs
    by_cases hlt : k < nh
    · obtain ⟨u0, h0⟩ := HSk.out.head.cell (j := k * 2) (by have := HNH.out; omega)
      obtain ⟨u1, h1⟩ := HSk.out.head.cell (j := k * 2 + 1) (by have := HNH.out; omega)
      have f0 := HSk.out.head.free (k * 2)
      have f1 := HSk.out.head.free (k * 2 + 1)
      have hki : (k : Int) < (nh : Int) := by omega
      have hgn := HSk.out.head.ne HSk.out.body (by decide)
      go_wp2
      go_roundw
      case rel => exact ⟨k + 1, by omega, by go_num, (HSk.out.setT BH.out.1 BH.out.2 hgn _ _).setT BH.out.1 BH.out.2 hgn _ _⟩
      case measure => simp [intOf]; omega
    · go_wp2
      obtain ⟨wo, rfl⟩ : ∃ wo : World, wo = wr := ⟨_, rfl⟩
      go_loopw [3] (fun v wj => ∃ k : Nat, k ≤ nb ∧ v = .int .i64 (k : Int) ∧ SpSt W base hi r gh ch gb cb ps k wj) (fun v _ => nb - (intOf v).toNat)
      case atStart => exact ⟨0, by omega, rfl, HSk.out⟩
      case round =>
        obtain ⟨k2, hk2, rfl, hs⟩ := hrel
        have z2 := hs.old hw x2
        have HS2 := Lib.hid hs
        clear hs y1 y2
        by_cases hlt2 : k2 < nb
        · obtain ⟨p, hp⟩ : ∃ p, ps[k2]? = some p := ⟨_, List.getElem?_eq_getElem (by have := HPL.out; omega)⟩
          have HP := Lib.hid hp
          have hpm := List.mem_of_getElem? hp
          have c2 := HS2.out.rest k2 p (Nat.le_refl _) hp
          have hnn := HM.out k2 p hp
          obtain ⟨m, hm⟩ : ∃ m, m = p.1.atom.terms.length := ⟨_, rfl⟩
          rw [← hm] at c2 hnn
          have HMM := Lib.hid hm
          have hki : (k2 : Int) < (nb : Int) := by omega
          clear hp hm
          go_wp2
          obtain ⟨wo2, rfl⟩ : ∃ wo2 : World, wo2 = wr := ⟨_, rfl⟩
          go_loopw [4] (fun v wj => ∃ j : Nat, j ≤ m ∧ v = .int .i64 (j : Int) ∧ SpSt W base hi r gh ch gb cb ps k2 wj) (fun v _ => m - (intOf v).toNat)
          case atStart => exact ⟨0, by omega, rfl, HS2.out⟩
          case round =>
            obtain ⟨j, hj, rfl, hs⟩ := hrel
            have t2 := hs.old hw x2
            have d2 := hs.rest k2 p (Nat.le_refl _) HP.out
            rw [← HMM.out] at d2
            have HS3 := Lib.hid hs
            clear hs
            by_cases hlt3 : j < m
            · obtain ⟨u0, h0⟩ := (HS3.out.terms p hpm).cell (j := j * 2) (by have := HMM.out; omega)
              obtain ⟨u1, h1⟩ := (HS3.out.terms p hpm).cell (j := j * 2 + 1) (by have := HMM.out; omega)
              have f0 := (HS3.out.terms p hpm).free (j * 2)
              have f1 := (HS3.out.terms p hpm).free (j * 2 + 1)
              have hji : (j : Int) < (m : Int) := by omega
              have hgn := (HS3.out.terms p hpm).ne HS3.out.body (by decide)
              go_wp2
              go_roundw
              case rel => exact ⟨j + 1, by omega, by go_num, (HS3.out.setT (BT.out p hpm).1 (BT.out p hpm).2 hgn _ _).setT (BT.out p hpm).1 (BT.out p hpm).2 hgn _ _⟩
              case measure => simp [intOf]; omega
            · have hbl : ∀ q, q < 8 → k2 * 8 + q < (ps.length + 1) * 8 := fun q hq => by have := HPL.out; omega
              obtain ⟨u0, h0⟩ := HS3.out.body.cell (hbl 0 (by omega))
              obtain ⟨u1, h1⟩ := HS3.out.body.cell (hbl 1 (by omega))
              obtain ⟨u3, h3⟩ := HS3.out.body.cell (hbl 3 (by omega))
              obtain ⟨u4, h4⟩ := HS3.out.body.cell (hbl 4 (by omega))
              obtain ⟨u5, h5⟩ := HS3.out.body.cell (hbl 5 (by omega))
              obtain ⟨u6, h6⟩ := HS3.out.body.cell (hbl 6 (by omega))
              obtain ⟨u7, h7⟩ := HS3.out.body.cell (hbl 7 (by omega))
              rw [Nat.add_zero] at h0
              have f0 := HS3.out.body.free (k2 * 8)
              have f1 := HS3.out.body.free (k2 * 8 + 1)
              have f2 := HS3.out.body.free (k2 * 8 + 2)
              have f3 := HS3.out.body.free (k2 * 8 + 3)
              have f4 := HS3.out.body.free (k2 * 8 + 4)
              have f5 := HS3.out.body.free (k2 * 8 + 5)
              have f6 := HS3.out.body.free (k2 * 8 + 6)
              have f7 := HS3.out.body.free (k2 * 8 + 7)
              clear hbl
              go_wp2
              go_roundw
              case rel =>
                have up := HS3.out.up
                have hq : ∀ q, q < 8 → k2 * 8 + q < (k2 + 1) * 8 := fun q hq => by omega
                exact ⟨k2 + 1, by omega, by go_num, ((((((((up.setL BB.out.1 BB.out.2 (hq 0 (by omega)) _).setL BB.out.1 BB.out.2 (hq 1 (by omega)) _).setL BB.out.1 BB.out.2 (hq 2 (by omega)) _).setL BB.out.1 BB.out.2 (hq 3 (by omega)) _).setL BB.out.1 BB.out.2 (hq 4 (by omega)) _).setL BB.out.1 BB.out.2 (hq 5 (by omega)) _).setL BB.out.1 BB.out.2 (hq 6 (by omega)) _).setL BB.out.1 BB.out.2 (hq 7 (by omega)) _)⟩
              case measure => simp [intOf]; omega
        · go_wp2
          have hlow : Below base w wr := (HB0.out.mono (Nat.le_trans (Nat.le_of_lt (Nat.lt_of_le_of_lt BB.out.1 BB.out.2)) hw)).trans HS2.out.low
          have hhigh : HeapSame hi w.heap.size w wr := fun b h1 h2 => (HS2.out.high b h1 (by have := SW.out; omega)).trans (HB0.out.block b h2)
          refine bodyPost_end (v := .tuple #[]) (by simp [results, Try.results28, go_sem]; try rfl) rfl ?_
          exact ⟨rfl, hlow, hhigh⟩
end Go.Proofs.Ytcphjfggjjonpaa
