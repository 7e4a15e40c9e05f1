/- The walks of the law's num, ints and known. -/
import Derived.Test.YtpgbenijjodoeaaGreatG16
namespace Go.Proofs.YtpgbenijjodoeaaGreat.K
open Go.ChangeShapes Go.WideShapes Go.ChangeAt Go.RowKit
def intAt (w : World) (b o : Nat) (x : Int) : Prop := w.cell? ⟨b, o, none⟩ = some (.int .i64 x)
def IntsAt (w : World) (a : Option Addr) (n : Nat) (xs : List Int) : Prop := n ≤ maxLen ∧ SliceAt intAt 1 w a n xs
theorem IntsAt.keep {W w : World} (hb : Ext W w) {a : Option Addr} {n : Nat} {xs : List Int} (h : IntsAt W a n xs) : IntsAt w a n xs := ⟨h.1, h.2.keep fun _ _ _ => YtpgbenijjodoeaaGreat.keep hb⟩
theorem c_num (v : Int) (w : World) : Calls Tryz.prog 7 #[.int .i64 v] w fun e w' => e = .returned (.int .i64 v) ∧ w' = w := by
  go_enter Tryz.func7, Tryz.ntmps7
  go_wp2
  go_returns
  exact ⟨rfl, rfl⟩
theorem take_eq_succ {xs ys : List Int} {k : Nat} {x y : Int} (hx : xs[k]? = some x) (hy : ys[k]? = some y) (h : xs.take k = ys.take k) (hxy : x = y) : xs.take (k + 1) = ys.take (k + 1) := by
  rw [take_at hx, take_at hy, h, hxy]
theorem c_ints (xs ys : List Int) (aa : Option Addr) (n cap : Nat) (ab : Option Addr) (m cb : Nat) (w : World) (ha : IntsAt w aa n xs) (hb : IntsAt w ab m ys) :
    Calls Tryz.prog 19 #[.slice aa n cap, .slice ab m cb] w fun e w' => e = .returned (.bool (decide (xs = ys))) ∧ Ext w w' := by
  have HA := Lib.hid ha
  have HB := Lib.hid hb
  have HL := Lib.hid ha.2.1
  have HM := Lib.hid hb.2.1
  have hn := ha.1
  clear ha hb
  have hn2 : n ≤ 9223372036854775807 := hn
  clear hn
  obtain ⟨b, eb⟩ : ∃ b, decide (n = m) = b := ⟨_, rfl⟩
  have EB := Lib.hid eb
  cases b with
  | false =>
    have hne : n ≠ m := by simpa using eb
    go_enter Tryz.func19, Tryz.ntmps19
    go_wp2
    go_returns
    refine ⟨ret_bool ?_, Below.refl _ _⟩
    symm
    simp only [decide_eq_false_iff_not]
    rintro rfl
    exact hne (HL.out.symm.trans HM.out)
  | true =>
    obtain rfl : n = m := by simpa using eb
    clear eb
    go_enter Tryz.func19, Tryz.ntmps19
    go_wp2
    go_loopw [5] (fun i wj => ∃ k, k ≤ n ∧ i = .int .i64 (k : Int) ∧ Ext w wj ∧ xs.take k = ys.take k) (fun i _ => n - (intOf i).toNat)
    case atStart => exact ⟨0, by omega, rfl, Below.refl _ _, rfl⟩
    case round =>
      obtain ⟨k, hk, rfl, hw, hq⟩ := hrel
      have HQ := Lib.hid hq
      clear hq
      by_cases hlt : k < n
      · obtain ⟨x, b1, o1, hx, rfl, h1⟩ := (HA.out.keep hw).2.at hlt
        obtain ⟨y, b2, o2, hy, rfl, h2⟩ := (HB.out.keep hw).2.at hlt
        have HX := Lib.hid hx
        have HY := Lib.hid hy
        have g1 : wr.cell? ⟨b1, o1 + k, none⟩ = some (.int .i64 x) := by simpa [intAt] using h1
        have g2 : wr.cell? ⟨b2, o2 + k, none⟩ = some (.int .i64 y) := by simpa [intAt] using h2
        clear hx hy h1 h2
        obtain ⟨q, eq⟩ : ∃ b, (x != y) = b := ⟨_, rfl⟩
        cases q with
        | true =>
          go_wp2
          go_quiet (fail)
          go_wp2
          go_ret
          refine ⟨ret_bool ?_, ext_drewN hw _⟩
          symm
          simp only [decide_eq_false_iff_not]
          rintro rfl
          have e := HX.out.symm.trans HY.out
          cases e
          simp at eq
        | false =>
          go_wp2
          go_quiet (fail)
          go_wp2
          go_roundw
          case rel => exact ⟨k + 1, by omega, by go_num, ext_drewN hw _, take_eq_succ HX.out HY.out HQ.out (by simpa using eq)⟩
          case measure => simp [intOf]; omega
      · go_wp2
        go_ret
        refine ⟨ret_bool ?_, hw⟩
        symm
        have h := HQ.out
        rw [List.take_of_length_le (by have := HL.out; omega), List.take_of_length_le (by have := HM.out; omega)] at h
        simpa using h
theorem c_known1 (t : ByteArray) (w : World) : Calls Tryz.prog 16 #[.string t] w fun e w' => e = .returned (.agg #[.int .i64 1, .string t]) ∧ w' = w.alloc (.cells #[.int .i64 1, .string t] 53) := by
  go_enter Tryz.func16, Tryz.ntmps16
  go_wp2
  go_returns
  exact ⟨rfl, rfl⟩
theorem c_known2 (t : ByteArray) (a : Option Addr) (n cap : Nat) (w : World) : Calls Tryz.prog 17 #[.string t, .slice a n cap] w fun e w' => e = .returned (.agg #[.int .i64 1, .string t, .slice a n cap, .int .i64 0, .int .i64 0, .string ⟨#[]⟩, .int .i64 0, .string ⟨#[]⟩]) ∧ w' = w.alloc (.cells #[.int .i64 1, .string t, .slice a n cap, .int .i64 0, .int .i64 0, .string ⟨#[]⟩, .int .i64 0, .string ⟨#[]⟩] 56) := by
  go_enter Tryz.func17, Tryz.ntmps17
  go_wp2
  go_returns
  exact ⟨rfl, rfl⟩
theorem field_atom (k : Int) (t : ByteArray) (a : Option Addr) (n c : Nat) (o k1 k2 : Int) (s1 s2 : ByteArray) (w : World) :
    (Instr.field 56 (.agg #[.int .i64 k, .string t, .slice a n c, .int .i64 o, .int .i64 k1, .string s1, .int .i64 k2, .string s2]) 1).run Tryz.prog w = .ok (.agg #[.string t, .slice a n c]) w := by
  simp [Instr.field, go_sem, part, asAgg]
def bs (n : UInt8) : ByteArray := ⟨#[n]⟩
def vT (n : UInt8) : Term := ⟨1, bs n⟩
def aL (ts : List Term) : Lit := { kind := 1, atom := { pred := bs 101, terms := ts }, op := 0, left := ⟨0, ⟨#[]⟩⟩, right := ⟨0, ⟨#[]⟩⟩ }
def kR : Rule := { head := { pred := bs 112, terms := [vT 88] }, body := [aL [vT 88, vT 89], aL [vT 89, vT 90]] }
def kS : Rule := { head := { pred := bs 112, terms := [vT 65] }, body := [aL [vT 65, vT 66]] }
theorem laid_rs : laid kR kS = (0, some [0]) := by kernel_rfl
theorem laid_sr : laid kS kR = (0, none) := by kernel_rfl
theorem cell_of_heap {W : World} {g : Nat} {cs : Array Value} {t : TypeId} {fz : Nat × Nat} (h : W.heap[g]? = some (.cells cs t fz)) (i : Nat) : W.cell? ⟨g, i, none⟩ = cs[i]? := by simp [World.cell?, h]
theorem heap_alloc_if (w : World) (o : Obj) (k : Nat) : (w.alloc o).heap[k]? = if k = w.heap.size then some o else w.heap[k]? := by
  unfold World.alloc
  simp [Array.getElem?_push]
theorem small1 : (1 : Nat) ≤ maxLen := by decide
theorem terms1 {W : World} {g : Nat} {t : TypeId} {fz : Nat × Nat} {a : UInt8} (h : W.heap[g]? = some (.cells #[.int .i64 1, .string ⟨#[a]⟩] t fz)) : TermsAt W (some ⟨g, 0, none⟩) 1 [vT a] := by
  refine ⟨by decide, rfl, fun i x hx => ⟨g, 0, rfl, ?_⟩⟩
  match i with
  | 0 => cases hx; exact ⟨by rw [cell_of_heap h]; rfl, by rw [cell_of_heap h]; rfl, small1⟩
  | i + 1 => simp at hx
theorem terms2 {W : World} {g : Nat} {t : TypeId} {fz : Nat × Nat} {a b : UInt8} (h : W.heap[g]? = some (.cells #[.int .i64 1, .string ⟨#[a]⟩, .int .i64 1, .string ⟨#[b]⟩] t fz)) : TermsAt W (some ⟨g, 0, none⟩) 2 [vT a, vT b] := by
  refine ⟨by decide, rfl, fun i x hx => ⟨g, 0, rfl, ?_⟩⟩
  match i with
  | 0 => cases hx; exact ⟨by rw [cell_of_heap h]; rfl, by rw [cell_of_heap h]; rfl, small1⟩
  | 1 => cases hx; exact ⟨by rw [cell_of_heap h]; rfl, by rw [cell_of_heap h]; rfl, small1⟩
  | i + 2 => simp at hx
theorem lits1 {W : World} {g g1 n1 c1 : Nat} {t : TypeId} {fz : Nat × Nat} {ts : List Term} (h : W.heap[g]? = some (.cells #[.int .i64 1, .string ⟨#[101]⟩, .slice (some ⟨g1, 0, none⟩) n1 c1, .int .i64 0, .int .i64 0, .string ⟨#[]⟩, .int .i64 0, .string ⟨#[]⟩] t fz)) (h1 : TermsAt W (some ⟨g1, 0, none⟩) n1 ts) (hc : n1 ≤ c1) :
    LitsAt W (some ⟨g, 0, none⟩) 1 [aL ts] := by
  refine ⟨by decide, rfl, fun i x hx => ⟨g, 0, rfl, ?_⟩⟩
  have C := cell_of_heap h
  match i with
  | 0 =>
    cases hx
    exact ⟨_, n1, c1, by rw [C]; rfl, by rw [C]; rfl, by rw [C]; rfl, by rw [C]; rfl, by rw [C]; rfl, by rw [C]; rfl, by rw [C]; rfl, by rw [C]; rfl, h1, ⟨hc, by intro h; cases h⟩, small1, Nat.zero_le _, Nat.zero_le _⟩
  | i + 1 => simp at hx
theorem lits2 {W : World} {g g1 n1 c1 g2 n2 c2 : Nat} {t : TypeId} {fz : Nat × Nat} {ts us : List Term} (h : W.heap[g]? = some (.cells #[.int .i64 1, .string ⟨#[101]⟩, .slice (some ⟨g1, 0, none⟩) n1 c1, .int .i64 0, .int .i64 0, .string ⟨#[]⟩, .int .i64 0, .string ⟨#[]⟩, .int .i64 1, .string ⟨#[101]⟩, .slice (some ⟨g2, 0, none⟩) n2 c2, .int .i64 0, .int .i64 0, .string ⟨#[]⟩, .int .i64 0, .string ⟨#[]⟩] t fz)) (h1 : TermsAt W (some ⟨g1, 0, none⟩) n1 ts) (hc : n1 ≤ c1) (h2 : TermsAt W (some ⟨g2, 0, none⟩) n2 us) (hc2 : n2 ≤ c2) :
    LitsAt W (some ⟨g, 0, none⟩) 2 [aL ts, aL us] := by
  refine ⟨by decide, rfl, fun i x hx => ⟨g, 0, rfl, ?_⟩⟩
  have C := cell_of_heap h
  match i with
  | 0 =>
    cases hx
    exact ⟨_, n1, c1, by rw [C]; rfl, by rw [C]; rfl, by rw [C]; rfl, by rw [C]; rfl, by rw [C]; rfl, by rw [C]; rfl, by rw [C]; rfl, by rw [C]; rfl, h1, ⟨hc, by intro h; cases h⟩, small1, Nat.zero_le _, Nat.zero_le _⟩
  | 1 =>
    cases hx
    exact ⟨_, n2, c2, by rw [C]; rfl, by rw [C]; rfl, by rw [C]; rfl, by rw [C]; rfl, by rw [C]; rfl, by rw [C]; rfl, by rw [C]; rfl, by rw [C]; rfl, h2, ⟨hc2, by intro h; cases h⟩, small1, Nat.zero_le _, Nat.zero_le _⟩
  | i + 2 => simp at hx
theorem own_ints {w : World} {base : Nat} {a : Option Addr} {n cap : Nat} {l : List Nat} (h : w.ownsRow base 3 1 (.slice a n cap) l.length (intsV l)) : n = l.length ∧ IntsAt w a n (l.map fun k => ((k : Nat) : Int)) := by
  obtain ⟨a', c', e, _⟩ := own_form h
  cases e
  refine ⟨rfl, ?_, by simp, fun i x hx => ?_⟩
  · rcases h.2 with ⟨_, h0⟩ | ⟨g, cap', cur, hv, _, _, hc, hm, _⟩
    · rw [h0]; exact Nat.zero_le _
    · exact Nat.le_trans hc hm
  · obtain ⟨k, hk, rfl⟩ : ∃ k, l[i]? = some k ∧ (k : Int) = x := by simpa using hx
    obtain ⟨b, off, e, h1⟩ := own_cell h (i := i) (x := .int .i64 (k : Int)) (by simp [intsV, hk])
    exact ⟨b, off, e, by rw [Nat.mul_one]; exact h1⟩
theorem c_ints_same (xs : List Int) (aa : Option Addr) (n cap : Nat) (ab : Option Addr) (m cb : Nat) (w : World) (ha : IntsAt w aa n xs) (hb : IntsAt w ab m xs) :
    Calls Tryz.prog 19 #[.slice aa n cap, .slice ab m cb] w fun e w' => e = .returned (.bool true) ∧ Ext w w' :=
  (c_ints xs xs aa n cap ab m cb w ha hb).mono fun e w' h => ⟨by rw [h.1]; simp, h.2⟩
theorem ints_zero (U : World) : IntsAt (U.alloc (.cells #[.int .i64 0] 3)) (some ⟨U.heap.size, 0, none⟩) 1 [0] := by
  refine ⟨small1, rfl, fun i x hx => ⟨U.heap.size, 0, rfl, ?_⟩⟩
  match i with
  | 0 => cases hx; exact World.cell?_alloc_new _ _ _ _
  | i + 1 => simp at hx
theorem c_within_rs (a1 : Option Addr) (c1 : Nat) (a2 : Option Addr) (c2 : Nat) (b1 : Option Addr) (d1 : Nat) (b2 : Option Addr) (d2 : Nat) (w : World) (hr : RuleV w kR a1 1 c1 a2 2 c2) (hs : RuleV w kS b1 1 d1 b2 1 d2) :
    Calls Tryz.prog 5 #[.agg #[.string ⟨#[112]⟩, .slice a1 1 c1, .slice a2 2 c2], .agg #[.string ⟨#[112]⟩, .slice b1 1 d1, .slice b2 1 d2]] w fun e w' => e = .returned (.tuple #[.bool true, .int .i64 0]) ∧ Ext w w' := by
  have h := c_Within kR kS a1 1 c1 a2 2 c2 b1 1 d1 b2 1 d2 w hr hs
  rw [laid_rs] at h
  exact h
theorem c_within_sr (a1 : Option Addr) (c1 : Nat) (a2 : Option Addr) (c2 : Nat) (b1 : Option Addr) (d1 : Nat) (b2 : Option Addr) (d2 : Nat) (w : World) (hr : RuleV w kS a1 1 c1 a2 1 c2) (hs : RuleV w kR b1 1 d1 b2 2 d2) :
    Calls Tryz.prog 5 #[.agg #[.string ⟨#[112]⟩, .slice a1 1 c1, .slice a2 1 c2], .agg #[.string ⟨#[112]⟩, .slice b1 1 d1, .slice b2 2 d2]] w fun e w' => e = .returned (.tuple #[.bool false, .int .i64 0]) ∧ Ext w w' := by
  have h := c_Within kS kR a1 1 c1 a2 1 c2 b1 1 d1 b2 2 d2 w hr hs
  rw [laid_sr] at h
  exact h
theorem c_laid_rs (a1 : Option Addr) (c1 : Nat) (a2 : Option Addr) (c2 : Nat) (b1 : Option Addr) (d1 : Nat) (b2 : Option Addr) (d2 : Nat) (w : World) (hr : RuleV w kR a1 1 c1 a2 2 c2) (hs : RuleV w kS b1 1 d1 b2 1 d2) :
    Calls Tryz.prog 18 #[.agg #[.string ⟨#[112]⟩, .slice a1 1 c1, .slice a2 2 c2], .agg #[.string ⟨#[112]⟩, .slice b1 1 d1, .slice b2 1 d2]] w fun e w' => ∃ a cap, e = .returned (.tuple #[.slice a 1 cap, .bool true, .int .i64 0]) ∧ Ext w w' ∧ IntsAt w' a 1 [0] := by
  refine (c_Laid2 kR kS a1 1 c1 a2 2 c2 b1 1 d1 b2 1 d2 w hr hs).mono fun e w' h => ?_
  obtain ⟨a, n, cap, he, hb, _, _, h3⟩ := h
  obtain ⟨rfl, h4⟩ := own_ints (h3 [0] (by rw [laid_rs]))
  rw [laid_rs] at he
  exact ⟨a, cap, he, hb, h4⟩
attribute [local go_sem] field_atom in
set_option maxHeartbeats 1000000 in
set_option maxRecDepth 50000 in
theorem c_known (w : World) : Calls Tryz.prog 4 #[] w fun e w' => e = .returned (.bool true) ∧ Ext w w' := by
  go_enter Tryz.func4, Tryz.ntmps4
  go_upto_region 4 with (first | (go_at_call 16; (with_reducible refine (c_known1 _ _).mono ?_); rintro e w1 ⟨rfl, rfl⟩) | (go_at_call 17; (with_reducible refine (c_known2 _ _ _ _ _).mono ?_); rintro e w1 ⟨rfl, rfl⟩))
  refine wp_gen (fun W hW => ?_)
  have hb0 : Ext w W := by rw [hW]; go_grown
  have k1 : W.heap[w.heap.size + 1]? = some (.cells #[.int .i64 1, .string ⟨#[88]⟩] 53 (0, 0)) := by rw [hW]; simp [heap_alloc_if, -getElem?_pos, -Array.getElem?_eq_getElem]
  have k2 : W.heap[w.heap.size + 5]? = some (.cells #[.int .i64 1, .string ⟨#[88]⟩, .int .i64 1, .string ⟨#[89]⟩] 53 (0, 0)) := by rw [hW]; simp [heap_alloc_if, -getElem?_pos, -Array.getElem?_eq_getElem]
  have k3 : W.heap[w.heap.size + 9]? = some (.cells #[.int .i64 1, .string ⟨#[89]⟩, .int .i64 1, .string ⟨#[90]⟩] 53 (0, 0)) := by rw [hW]; simp [heap_alloc_if, -getElem?_pos, -Array.getElem?_eq_getElem]
  have k4 : W.heap[w.heap.size + 12]? = some (.cells #[.string ⟨#[112]⟩, .slice (some ⟨w.heap.size + 1, 0, none⟩) 1 1, .slice (some ⟨w.heap.size + 11, 0, none⟩) 2 2] 27 (0, 0)) := by rw [hW]; simp [heap_alloc_if, -getElem?_pos, -Array.getElem?_eq_getElem]
  have k5 : W.heap[w.heap.size + 11]? = some (.cells #[.int .i64 1, .string ⟨#[101]⟩, .slice (some ⟨w.heap.size + 5, 0, none⟩) 2 2, .int .i64 0, .int .i64 0, .string ⟨#[]⟩, .int .i64 0, .string ⟨#[]⟩, .int .i64 1, .string ⟨#[101]⟩, .slice (some ⟨w.heap.size + 9, 0, none⟩) 2 2, .int .i64 0, .int .i64 0, .string ⟨#[]⟩, .int .i64 0, .string ⟨#[]⟩] 56 (0, 0)) := by rw [hW]; simp [heap_alloc_if, -getElem?_pos, -Array.getElem?_eq_getElem]
  have HRR : RuleV W kR (some ⟨w.heap.size + 1, 0, none⟩) 1 1 (some ⟨w.heap.size + 11, 0, none⟩) 2 2 := ⟨small1, terms1 k1, lits2 k5 (terms2 k2) (by decide) (terms2 k3) (by decide), ⟨by decide, by intro h; cases h⟩, ⟨by decide, by intro h; cases h⟩⟩
  have x0 : W.cell? ⟨w.heap.size + 12, 0, none⟩ = some (.string ⟨#[112]⟩) := cell_of_heap k4 0
  have x1 : W.cell? ⟨w.heap.size + 12, 1, none⟩ = some (.slice (some ⟨w.heap.size + 1, 0, none⟩) 1 1) := cell_of_heap k4 1
  have x2 : W.cell? ⟨w.heap.size + 12, 2, none⟩ = some (.slice (some ⟨w.heap.size + 11, 0, none⟩) 2 2) := cell_of_heap k4 2
  clear hW k1 k2 k3 k4 k5
  have HR := Lib.hid HRR
  clear HRR
  go_upto_region 5 with (first | (go_at_call 16; (with_reducible refine (c_known1 _ _).mono ?_); rintro e w1 ⟨rfl, rfl⟩) | (go_at_call 17; (with_reducible refine (c_known2 _ _ _ _ _).mono ?_); rintro e w1 ⟨rfl, rfl⟩))
  refine wp_gen (fun V hV => ?_)
  have hb1 : Ext W V := by rw [hV]; go_grown
  have k1 : V.heap[W.heap.size + 1]? = some (.cells #[.int .i64 1, .string ⟨#[65]⟩] 53 (0, 0)) := by rw [hV]; simp [heap_alloc_if, -getElem?_pos, -Array.getElem?_eq_getElem]
  have k2 : V.heap[W.heap.size + 5]? = some (.cells #[.int .i64 1, .string ⟨#[65]⟩, .int .i64 1, .string ⟨#[66]⟩] 53 (0, 0)) := by rw [hV]; simp [heap_alloc_if, -getElem?_pos, -Array.getElem?_eq_getElem]
  have k4 : V.heap[W.heap.size + 8]? = some (.cells #[.string ⟨#[112]⟩, .slice (some ⟨W.heap.size + 1, 0, none⟩) 1 1, .slice (some ⟨W.heap.size + 7, 0, none⟩) 1 1] 27 (0, 0)) := by rw [hV]; simp [heap_alloc_if, -getElem?_pos, -Array.getElem?_eq_getElem]
  have k5 : V.heap[W.heap.size + 7]? = some (.cells #[.int .i64 1, .string ⟨#[101]⟩, .slice (some ⟨W.heap.size + 5, 0, none⟩) 2 2, .int .i64 0, .int .i64 0, .string ⟨#[]⟩, .int .i64 0, .string ⟨#[]⟩] 56 (0, 0)) := by rw [hV]; simp [heap_alloc_if, -getElem?_pos, -Array.getElem?_eq_getElem]
  have HSS : RuleV V kS (some ⟨W.heap.size + 1, 0, none⟩) 1 1 (some ⟨W.heap.size + 7, 0, none⟩) 1 1 := ⟨small1, terms1 k1, lits1 k5 (terms2 k2) (by decide), ⟨by decide, by intro h; cases h⟩, ⟨by decide, by intro h; cases h⟩⟩
  have y0 : V.cell? ⟨W.heap.size + 8, 0, none⟩ = some (.string ⟨#[112]⟩) := cell_of_heap k4 0
  have y1 : V.cell? ⟨W.heap.size + 8, 1, none⟩ = some (.slice (some ⟨W.heap.size + 1, 0, none⟩) 1 1) := cell_of_heap k4 1
  have y2 : V.cell? ⟨W.heap.size + 8, 2, none⟩ = some (.slice (some ⟨W.heap.size + 7, 0, none⟩) 1 1) := cell_of_heap k4 2
  clear hV k1 k2 k4 k5
  have HS := Lib.hid HSS
  clear HSS
  have z0 := keep hb1 x0
  have z1 := keep hb1 x1
  have z2 := keep hb1 x2
  have hwv := ext_trans hb0 hb1
  clear x0 x1 x2
  have hz1 : w.heap.size + 12 < V.heap.size := World.block_lt_of_cell? _ _ z0
  have hz2 : W.heap.size + 8 < V.heap.size := World.block_lt_of_cell? _ _ y0
  go_upto_region 6 with (go_at_call 5; (with_reducible refine (c_within_rs _ _ _ _ _ _ _ _ _ (HR.out.keep hb1) HS.out).mono ?_); rintro e w1 ⟨rfl, h1⟩; have z0 := keep h1 z0; have z1 := keep h1 z1; have z2 := keep h1 z2; have y0 := keep h1 y0; have y1 := keep h1 y1; have y2 := keep h1 y2)
  go_upto_region 7 with (go_at_call 5; (with_reducible refine (c_within_sr _ _ _ _ _ _ _ _ _ (HS.out.keep h1) (HR.out.keep (ext_trans hb1 h1))).mono ?_); rintro e w2 ⟨rfl, h2⟩; have z0 := keep h2 z0; have z1 := keep h2 z1; have z2 := keep h2 z2; have y0 := keep h2 y0; have y1 := keep h2 y1; have y2 := keep h2 y2)
  go_upto_region 8 with (go_at_call 18; (with_reducible refine (c_laid_rs _ _ _ _ _ _ _ _ _ (HR.out.keep (ext_trans hb1 (ext_trans h1 h2))) (HS.out.keep (ext_trans h1 h2))).mono ?_); rintro e w3 ⟨a3, c3, rfl, h3, hi3⟩)
  have HI := Lib.hid hi3
  clear hi3
  go_wp2_with (first | (go_at_call 7; (with_reducible refine (c_num _ _).mono ?_); rintro e w4 ⟨rfl, rfl⟩) | (go_at_call 19; (with_reducible refine (c_ints_same [0] _ _ _ _ _ _ _ (HI.out.keep (ext_alloc (Below.refl _ _) _)) (ints_zero _)).mono ?_); rintro e w5 ⟨rfl, h5⟩))
  go_returns
  exact ⟨rfl, ext_trans hb0 (ext_trans hb1 (ext_trans h1 (ext_trans h2 (ext_trans h3 (ext_after h5 (ext_alloc (Below.refl _ _) _))))))⟩
end Go.Proofs.YtpgbenijjodoeaaGreat.K
