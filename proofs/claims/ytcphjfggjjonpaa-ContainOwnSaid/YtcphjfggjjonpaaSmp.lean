/- The walk of the law's same: programs of the same rules. -/
import Derived.Test.YtcphjfggjjonpaaNewQ
import Derived.Test.YtcphjfggjjonpaaLeast
namespace Go.Proofs.Ytcphjfggjjonpaa
open Go.ChangeShapes Go.WideShapes Go.ChangeAt Go.RowKit
theorem ruleIn_at {w : World} {a : Option Addr} {n : Nat} {rs : List Rule} (h : RulesAt w a n rs) {i : Nat} {r : Rule} (hi : rs[i]? = some r) : ∃ (g off : Nat) (q : RuleQ), q.1 = r ∧ a = some ⟨g, off, none⟩ ∧ w.cell? ⟨g, off + i * 3, none⟩ = some (.string q.1.head.pred) ∧ w.cell? ⟨g, off + i * 3 + 1, none⟩ = some (.slice q.2.1.1 q.2.1.2.1 q.2.1.2.2) ∧ w.cell? ⟨g, off + i * 3 + 2, none⟩ = some (.slice q.2.2.1 q.2.2.2.1 q.2.2.2.2) ∧ okQ w q := by
  obtain ⟨b, off, ha, ah, nh, ch, ab, nb, cb, h0, h1, h2, hv⟩ := h.2.2 i r hi
  exact ⟨b, off, (r, (ah, nh, ch), (ab, nb, cb)), rfl, ha, h0, h1, h2, hv⟩
set_option maxRecDepth 20000 in
set_option maxHeartbeats 4000000 in
theorem c_sameP (rs : List Rule) (a : Option Addr) (n cap : Nat) (a' : Option Addr) (n' cap' : Nat) (w : World) (h1 : RulesAt w a n rs) (h2 : RulesAt w a' n' rs) :
    Calls Try.prog 27 #[.agg #[.slice a n cap], .agg #[.slice a' n' cap']] w fun e w' => e = .returned (.bool true) ∧ Ext w w' := by
  obtain rfl : n' = n := by rw [← h1.2.1, ← h2.2.1]
  have hn := h1.1
  have HL := Lib.hid h1.2.1
  have H1 := Lib.hid h1
  have H2 := Lib.hid h2
  clear h1 h2
  go_enter Try.func27, Try.ntmps27
  go_upto_region 1 with (fail)
  refine wp_gen (fun W hW => ?_)
  have hb0 : Ext w W := by rw [hW]; go_grown
  have x0 : W.cell? ⟨w.heap.size, 0, none⟩ = some (.slice a n' cap) := by rw [hW]; go_simp
  have y0 : W.cell? ⟨w.heap.size + 1, 0, none⟩ = some (.slice a' n' cap') := by rw [hW]; go_simp
  clear hW
  have t1 : ((n' : Int) != (n' : Int)) = false := by simp
  go_wp2
  go_loopw [5] (fun v wj => ∃ k : Nat, k ≤ n' ∧ v = .int .i64 (k : Int) ∧ Ext W wj) (fun v _ => n' - (intOf v).toNat)
  case atStart => exact ⟨0, by omega, rfl, Below.refl _ _⟩
  case round =>
    obtain ⟨k, hk, rfl, hE⟩ := hrel
    have x0 := keep hE x0
    have y0 := keep hE y0
    have HE := Lib.hid hE
    by_cases hge : n' ≤ k
    · have hlt' : ¬ (k : Int) < (n' : Int) := by omega
      go_wp2
      go_returns
      exact ⟨rfl, ext_trans hb0 HE.out⟩
    · obtain ⟨r, hr⟩ : ∃ x, rs[k]? = some x := ⟨_, List.getElem?_eq_getElem (by rw [HL.out]; omega)⟩
      obtain ⟨g1, o1, q1, rfl, rfl, k0, k1, k2, ok1⟩ := ruleIn_at (H1.out.keep (ext_trans hb0 hE)) hr
      obtain ⟨g2, o2, q2, e2, rfl, m0, m1, m2, ok2⟩ := ruleIn_at (H2.out.keep (ext_trans hb0 hE)) hr
      have hki : (k : Int) < (n' : Int) := by omega
      have O1 : Hid (RuleV wr q1.1 q1.2.1.1 q1.2.1.2.1 q1.2.1.2.2 q1.2.2.1 q1.2.2.2.1 q1.2.2.2.2) := ok1
      have O2 : Hid (RuleV wr q1.1 q2.2.1.1 q2.2.1.2.1 q2.2.1.2.2 q2.2.2.1 q2.2.2.2.1 q2.2.2.2.2) := by rw [← e2]; exact ok2
      rw [e2] at m0
      have sx := World.block_lt_of_cell? wr ⟨w.heap.size, 0, none⟩ x0
      have sy := World.block_lt_of_cell? wr ⟨w.heap.size + 1, 0, none⟩ y0
      have s1 := World.block_lt_of_cell? wr ⟨g1, _, none⟩ k0
      have s2 := World.block_lt_of_cell? wr ⟨g2, _, none⟩ m0
      have sx' : w.heap.size < wr.heap.size := sx
      have sy' : w.heap.size + 1 < wr.heap.size := sy
      have s1' : g1 < wr.heap.size := s1
      have s2' : g2 < wr.heap.size := s2
      have hd3 : Ext wr wr.drew := ext_drew (Below.refl _ _)
      clear hr ok1 ok2 hge hE sx sy s1 s2 e2
      go_upto_region 6 with (fail)
      go_cut [31] (fun v31 wc => v31 = .bool false ∧ Ext wr wc)
      case first =>
        go_region_held3 (fun w' => ∀ b o, b < wr.heap.size → w'.cell? ⟨b, o, none⟩ = wr.cell? ⟨b, o, none⟩)
          ((intro bb oo hbb; first | rfl | exact g6.cell (p := ⟨bb, oo, none⟩) hbb))
          (first
            | (go_at_call 31; (with_reducible refine (c_SameR_self q1.1 _ _ _ _ _ _ _ _ _ _ _ _ _ (O1.out.keep hd3) (O2.out.keep hd3)).mono ?_); rintro e w6 ⟨rfl, h6⟩; have g6 := ext_trans hd3 h6)
            | fail)
        all_goals
          go_wp2
          go_meet
          exact ⟨rfl, g6⟩
      case rest =>
        obtain ⟨rfl, e6⟩ := hcut
        have TE := Lib.hid (ext_trans HE.out e6)
        clear e6
        go_wp2
        go_roundw
        case rel => exact ⟨k + 1, by omega, by go_num, TE.out⟩
        case measure => simp [intOf]; omega
end Go.Proofs.Ytcphjfggjjonpaa
