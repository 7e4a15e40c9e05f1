/- Walks that read a trie: none, Depth, Len, below, ways. The walks of cmp.Less and slices.BinarySearch at texts. The walk of the trie's seek. -/
import Derived.Test.YtpgbenijjodoeaaGreatG8
import Derived.Test.YtpgbenijjodoeaaGreatG20
import Derived.StillTailTactics
import Derived.Deep.CutBlock
namespace Go.Proofs.YtpgbenijjodoeaaGreat
open Go.ChangeShapes Go.WideShapes Go.ChangeAt Go.RowKit
theorem TrieV.froms {w : World} {pt d : Nat} {ways : List (List ByteArray)} (h : TrieV w pt d ways) : ∃ g, w.cell? ⟨pt, 0, none⟩ = some (.slice (some ⟨g, 0, none⟩) d d) ∧ ∀ i, i < d → ∃ b o fc, w.cell? ⟨g, i * 2 + 1, none⟩ = some (.slice (some ⟨b, o, none⟩) (wid ways i ways.length + 1) fc) ∧ ∀ j, j ≤ wid ways i ways.length → w.cell? ⟨b, o + j, none⟩ = some (.int .i64 (wid ways (i + 1) (st ways i j) : Nat)) := by
  obtain ⟨⟨g, h1, h2⟩, _, _⟩ := h
  refine ⟨g, h1, fun i hi => ?_⟩
  obtain ⟨ka, kc, fa, fc, a1, a2, a3, _, _, a4⟩ := h2 i hi
  obtain ⟨x, b, o, _, e, _⟩ := a4.2.at (i := 0) (by omega)
  subst e
  refine ⟨b, o, fc, a2, fun j hj => ?_⟩
  obtain ⟨x, b', o', hx, e, hc⟩ := a4.2.at (i := j) (by omega)
  cases e
  rw [List.getElem?_map, fromM_at ways i j hj] at hx
  cases hx
  simpa [intAt, natV] using hc
theorem TrieV.keys {w : World} {pt d : Nat} {ways : List (List ByteArray)} (h : TrieV w pt d ways) : ∃ g, w.cell? ⟨pt, 0, none⟩ = some (.slice (some ⟨g, 0, none⟩) d d) ∧ ∀ i, i < d → ∃ ka kc, w.cell? ⟨g, i * 2, none⟩ = some (.slice ka (wid ways i ways.length) kc) ∧ StrsAt w ka (wid ways i ways.length) (keysM ways i ways.length) ∧ (ka = none → wid ways i ways.length = 0 ∧ kc = 0) ∧ wid ways i ways.length ≤ kc := by
  obtain ⟨⟨g, h1, h2⟩, _, _⟩ := h
  refine ⟨g, h1, fun i hi => ?_⟩
  obtain ⟨ka, kc, fa, fc, a1, a2, a3, a4, a5, _⟩ := h2 i hi
  exact ⟨ka, kc, a1, a3, a4, a5⟩
theorem c_none (pt d : Nat) (ways : List (List ByteArray)) (w : World) (h : TrieV w pt d ways) :
    Calls Tryz.prog 105 #[.pointer (some ⟨pt, 0, none⟩)] w fun e w' => e = .returned (.bool false) ∧ w' = w := by
  have c2 := h.c2
  clear h
  go_enter Tryz.func105, Tryz.ntmps105
  go_wp2
  go_returns
  exact ⟨rfl, rfl⟩
theorem c_depth (pt d : Nat) (ways : List (List ByteArray)) (w : World) (h : TrieV w pt d ways) :
    Calls Tryz.prog 121 #[.pointer (some ⟨pt, 0, none⟩)] w fun e w' => e = .returned (.int .i64 (d : Nat)) ∧ w' = w := by
  have H := Lib.hid h
  obtain ⟨g, h0, _⟩ := h.top
  clear h
  go_enter Tryz.func121, Tryz.ntmps121
  go_wp2_with (go_at_call 105; (with_reducible refine (c_none pt d ways _ H.out).mono ?_); rintro e w1 ⟨rfl, hw1⟩; obtain rfl := hw1.symm)
  go_returns
  exact ⟨rfl, rfl⟩
theorem c_lenT (pt d : Nat) (ways : List (List ByteArray)) (w : World) (h : TrieV w pt d ways) :
    Calls Tryz.prog 122 #[.pointer (some ⟨pt, 0, none⟩)] w fun e w' => e = .returned (.int .i64 (ways.length : Nat)) ∧ w' = w := by
  have H := Lib.hid h
  have c1 := h.c1
  clear h
  go_enter Tryz.func122, Tryz.ntmps122
  go_wp2_with (go_at_call 105; (with_reducible refine (c_none pt d ways _ H.out).mono ?_); rintro e w1 ⟨rfl, hw1⟩; obtain rfl := hw1.symm)
  go_returns
  exact ⟨rfl, rfl⟩
theorem wp_gen0 {P : World → Prop} {w : World} (h : ∀ W, W = w → P W) : P w := h w rfl
def spanV (s : Nat × Nat) : Value := .agg #[.int .i64 (s.1 : Nat), .int .i64 (s.2 : Nat)]
/-- The span of what follows place j of level i. -/
def belowS (ways : List (List ByteArray)) (i j : Nat) : Nat × Nat := (wid ways (i + 1) (st ways i j), wid ways (i + 1) (st ways i (j + 1)))
set_option maxRecDepth 100000 in
theorem c_below (pt d : Nat) (ways : List (List ByteArray)) (i j : Nat) (w : World) (h : TrieV w pt d ways) (hi : i < d) (hj : j < wid ways i ways.length) (hn : ways.length ≤ 1000000) :
    Calls Tryz.prog 124 #[.pointer (some ⟨pt, 0, none⟩), .int .i64 (i : Int), .int .i64 (j : Int)] w fun e w' => e = .returned (spanV (belowS ways i j)) ∧ Ext w w' := by
  obtain ⟨g, h0, h1⟩ := h.froms
  obtain ⟨b, o, fc, h2, h3⟩ := h1 i hi
  have g1 := h3 j (by omega)
  have g2 := h3 (j + 1) (by omega)
  have hwl := wid_le ways i ways.length
  obtain ⟨N, hN⟩ : ∃ N, wid ways i ways.length + 1 = N := ⟨_, rfl⟩
  have hjN : j + 1 < N := by omega
  rw [hN] at h2
  unfold belowS spanV
  dsimp only
  obtain ⟨x, hx⟩ : ∃ x : Nat, wid ways (i + 1) (st ways i j) = x := ⟨_, rfl⟩
  obtain ⟨y, hy⟩ : ∃ y : Nat, wid ways (i + 1) (st ways i (j + 1)) = y := ⟨_, rfl⟩
  rw [hx] at g1
  rw [hy] at g2
  rw [hx, hy]
  have e (o' : Obj) : Ext w (w.alloc o') := ext_alloc (Below.refl _ w) o'
  have k0 := fun o' => keep (e o') h0
  have k1 := fun o' => keep (e o') h2
  have k2 := fun o' => keep (e o') g1
  have k3 := fun o' => keep (e o') g2
  have p1 : (i : Int) < (d : Int) := by omega
  have p2 : (j : Int) < (N : Int) := by omega
  have p3 : (j : Int) + 1 < (N : Int) := by omega
  have p4 : (0 : Int) ≤ (j : Int) + 1 := by omega
  have p5 : ((j : Int) + 1).toNat = j + 1 := by omega
  have p6 : IntKind.i64.wrap ((j : Int) + 1) = (j : Int) + 1 := wrapS (by omega)
  clear h h1 h3 hx hy hN h0 h2 g1 g2
  go_enter Tryz.func124, Tryz.ntmps124
  go_wp2
  refine wp_gen (fun W0 hW0 => ?_)
  have E0 : Hid (Ext w W0) := by show Ext _ _; rw [hW0]; exact e _
  have c0 : W0.cell? ⟨pt, 0, none⟩ = some (.slice (some ⟨g, 0, none⟩) d d) := by rw [hW0]; exact k0 _
  have c1 : W0.cell? ⟨g, i * 2 + 1, none⟩ = some (.slice (some ⟨b, o, none⟩) N fc) := by rw [hW0]; exact k1 _
  have c2 : W0.cell? ⟨b, o + j, none⟩ = some (.int .i64 (x : Int)) := by rw [hW0]; exact k2 _
  have c3 : W0.cell? ⟨b, o + (j + 1), none⟩ = some (.int .i64 (y : Int)) := by rw [hW0]; exact k3 _
  have z0 : W0.cell? ⟨w.heap.size, 0, none⟩ = some (.int .i64 0) := by rw [hW0]; go_simp
  have z1 : W0.cell? ⟨w.heap.size, 1, none⟩ = some (.int .i64 0) := by rw [hW0]; go_simp
  have f0 : W0.frozen? ⟨w.heap.size, 0, none⟩ = false := by rw [hW0]; go_simp
  have f1 : W0.frozen? ⟨w.heap.size, 1, none⟩ = false := by rw [hW0]; go_simp
  clear hW0 k0 k1 k2 k3 e
  go_still_tail 24, (by kernel_rfl)
  go_wp2
  refine wp_gen0 (fun W hW => ?_)
  have S0 : W.cell? ⟨w.heap.size, 0, none⟩ = some (.int .i64 (x : Int)) := by rw [hW]; go_simp
  have S1 : W.cell? ⟨w.heap.size, 1, none⟩ = some (.int .i64 (y : Int)) := by rw [hW]; go_simp
  have hE : Ext w W := by rw [hW]; exact ext_set (ext_set (ext_drew E0.out) (Nat.le_refl _) _) (Nat.le_refl _) _
  refine bodyPost_ret (by simp [results, Tryz.results124, go_sem, S0, S1]; try rfl) rfl ?_
  exact ⟨rfl, hE⟩
/-- How many ways go through place j of level i. -/
def cntW (ways : List (List ByteArray)) (i j : Nat) : Nat := st ways i (j + 1) - st ways i j
end Go.Proofs.YtpgbenijjodoeaaGreat
namespace Go.Proofs.YtpgbenijjodoeaaGreat
open Go.ChangeShapes Go.WideShapes Go.ChangeAt Go.RowKit
theorem c_nan (x : ByteArray) (w : World) : Calls Tryz.prog 97 #[.string x] w fun e w' => e = .returned (.bool false) ∧ w' = w := by
  have ea : (x.toList == x.toList) = true := by simp
  go_enter Tryz.func97, Tryz.ntmps97
  go_wp2
  go_returns
  exact ⟨rfl, rfl⟩
theorem c_nan2 (x : ByteArray) (w : World) : Calls Tryz.prog 153 #[.string x] w fun e w' => e = .returned (.bool false) ∧ w' = w := by
  have ea : (x.toList == x.toList) = true := by simp
  go_enter Tryz.func153, Tryz.ntmps153
  go_wp2
  go_returns
  exact ⟨rfl, rfl⟩
theorem c_less (x y : ByteArray) (w : World) : Calls Tryz.prog 152 #[.string x, .string y] w fun e w' => e = .returned (.bool (ltB x y)) ∧ w' = w := by
  obtain ⟨p, hp⟩ : ∃ p, Op.bytesLess x.toList y.toList = p := ⟨_, rfl⟩
  have HP : Hid (ltB x y = p) := hp
  go_enter Tryz.func152, Tryz.ntmps152
  go_wp2_with (go_at_call 97; (with_reducible refine (c_nan _ _).mono ?_); rintro e w1 ⟨rfl, hw1⟩; obtain rfl := hw1.symm)
  go_returns
  exact ⟨by rw [HP.out]; first | rfl | (cases p <;> rfl), rfl⟩
/-- How many of the first keys are below t. -/
def lowS (ks : List ByteArray) (t : ByteArray) : Nat := (ks.takeWhile fun k => ltB k t).length
/-- Is it among the keys? -/
def foundS (ks : List ByteArray) (t : ByteArray) : Bool := match ks[lowS ks t]? with
  | some x => x.toList == t.toList
  | none => false
theorem lowS_is {ks : List ByteArray} {t : ByteArray} {r : Nat} (h1 : ∀ k x, k < r → ks[k]? = some x → ltB x t = true) (h2 : ∀ x, ks[r]? = some x → ltB x t = false) (hr : r ≤ ks.length) : lowS ks t = r := takeWhile_len _ ks r h1 h2 hr
def CutS (ks : List ByteArray) (t : ByteArray) : Prop := ∀ (i j : Nat) (x y : ByteArray), i ≤ j → ks[i]? = some x → ks[j]? = some y → ltB y t = true → ltB x t = true
set_option maxRecDepth 100000 in
set_option maxHeartbeats 4000000 in
theorem c_bs (ks : List ByteArray) (t : ByteArray) (a : Option Addr) (n cap : Nat) (w : World) (hr : StrsAt w a n ks) (hc : CutS ks t) (hn : n ≤ 1000000000) :
    Calls Tryz.prog 141 #[.slice a n cap, .string t] w fun e w' => e = .returned (.tuple #[.int .i64 (lowS ks t : Nat), .bool (foundS ks t)]) ∧ w' = w := by
  have HR := Lib.hid hr
  have HC := Lib.hid hc
  have HL := Lib.hid hr.2.1
  clear hr hc
  go_enter Tryz.func141, Tryz.ntmps141
  go_wp2
  go_loopw [7, 8] (fun v9 v10 wj => ∃ i j : Nat, i ≤ j ∧ j ≤ n ∧ v9 = .int .i64 (i : Int) ∧ v10 = .int .i64 (j : Int) ∧ wj = w ∧ (∀ k x, k < i → ks[k]? = some x → ltB x t = true) ∧ (∀ x, ks[j]? = some x → ltB x t = false)) (fun v9 v10 _ => (intOf v10).toNat - (intOf v9).toNat)
  case atStart => exact ⟨0, n, Nat.zero_le _, Nat.le_refl _, rfl, rfl, rfl, fun k x hk => absurd hk (Nat.not_lt_zero _), fun x hx => by rw [List.getElem?_eq_none (by have := HL.out; omega)] at hx; cases hx⟩
  case round =>
    obtain ⟨i, j, hij, hjn, rfl, rfl, rfl, h1, h2⟩ := hrel
    have H1 := Lib.hid h1
    have H2 := Lib.hid h2
    clear h1 h2
    by_cases hlt : i < j
    · have hlti : (i : Int) < (j : Int) := by omega
      go_upto_region 5 with (fail)
      obtain ⟨h, hh⟩ : ∃ h : Nat, ((i : Int) + (j : Int)) / 2 = (h : Int) := ⟨(i + j) / 2, by omega⟩
      have hih : i ≤ h := by omega
      have hhj : h < j := by omega
      rw [hh]
      clear hh
      obtain ⟨x, b1, o1, hx, rfl, c1⟩ := HR.out.2.at (i := h) (by omega)
      have HX := Lib.hid hx
      have g1 : wr.cell? ⟨b1, o1 + h, none⟩ = some (.string x) := by simpa [strAt] using c1
      have hhn : (h : Int) < (n : Int) := by omega
      obtain ⟨C, hC⟩ : ∃ C, ltB x t = C := ⟨_, rfl⟩
      have HCC := Lib.hid hC
      clear hx c1 hC
      cases C with
      | true =>
        have HNX : Hid (∀ k y, k < h + 1 → ks[k]? = some y → ltB y t = true) := fun k y hk hy => HC.out k h y x (by omega) hy HX.out HCC.out
        go_wp2_with (go_at_call 152; (with_reducible refine (c_less x t _).mono ?_); rw [HCC.out]; rintro e w1 ⟨rfl, hw1⟩; obtain rfl := hw1.symm)
        go_roundw
        case rel => exact ⟨h + 1, j, by omega, hjn, by go_num, rfl, by first | trivial | rfl, HNX.out, H2.out⟩
        case measure => simp [intOf]; omega
      | false =>
        have HNX : Hid (∀ y, ks[h]? = some y → ltB y t = false) := fun y hy => by
          have := HX.out.symm.trans hy
          cases this
          exact HCC.out
        go_wp2_with (go_at_call 152; (with_reducible refine (c_less x t _).mono ?_); rw [HCC.out]; rintro e w1 ⟨rfl, hw1⟩; obtain rfl := hw1.symm)
        go_roundw
        case rel => exact ⟨i, h, by omega, by omega, rfl, rfl, by first | trivial | rfl, H1.out, HNX.out⟩
        case measure => simp [intOf]; omega
    · obtain rfl : i = j := by omega
      have hge : ¬ (i : Int) < (i : Int) := by omega
      have hlow : lowS ks t = i := lowS_is H1.out H2.out (by have := HL.out; omega)
      have HLOW := Lib.hid hlow
      clear hlow hlt
      by_cases hin : i < n
      · have hin2 : (i : Int) < (n : Int) := by omega
        obtain ⟨x, b1, o1, hx, rfl, c1⟩ := HR.out.2.at (i := i) hin
        have g1 : wr.cell? ⟨b1, o1 + i, none⟩ = some (.string x) := by simpa [strAt] using c1
        obtain ⟨q, hq⟩ : ∃ q, (x.toList == t.toList) = q := ⟨_, rfl⟩
        have HFB : Hid (foundS ks t = q) := by
          show _ = _
          unfold foundS
          rw [HLOW.out, hx]
          exact hq
        clear hx c1
        cases q with
        | true =>
          go_wp2_with (go_at_call 153; (with_reducible refine (c_nan2 _ _).mono ?_); rintro e w1 ⟨rfl, hw1⟩; obtain rfl := hw1.symm)
          go_ret2
          exact ⟨by rw [HLOW.out, HFB.out]; rfl, rfl⟩
        | false =>
          go_wp2_with (go_at_call 153; (with_reducible refine (c_nan2 _ _).mono ?_); rintro e w1 ⟨rfl, hw1⟩; obtain rfl := hw1.symm)
          go_ret2
          exact ⟨by rw [HLOW.out, HFB.out]; rfl, rfl⟩
      · obtain rfl : i = n := by omega
        have HFB : Hid (foundS ks t = false) := by
          show _ = _
          unfold foundS
          rw [HLOW.out, List.getElem?_eq_none (by have := HL.out; omega)]
        go_wp2_with (go_at_call 153; (with_reducible refine (c_nan2 _ _).mono ?_); rintro e w1 ⟨rfl, hw1⟩; obtain rfl := hw1.symm)
        go_ret2
        exact ⟨by rw [HLOW.out, HFB.out]; rfl, rfl⟩
end Go.Proofs.YtpgbenijjodoeaaGreat
namespace Go.Proofs.YtpgbenijjodoeaaGreat
open Go.ChangeShapes Go.WideShapes Go.ChangeAt Go.RowKit
theorem lowS_spec (ks : List ByteArray) (t : ByteArray) : lowS ks t ≤ ks.length ∧ (∀ k x, k < lowS ks t → ks[k]? = some x → ltB x t = true) ∧ ∀ x, ks[lowS ks t]? = some x → ltB x t = false := by
  unfold lowS
  induction ks with
  | nil => exact ⟨Nat.le_refl _, fun k x hk => by simp at hk, fun x hx => by simp at hx⟩
  | cons a ks ih =>
    rw [List.takeWhile_cons]
    by_cases h : ltB a t = true
    · rw [if_pos h, List.length_cons, List.length_cons]
      refine ⟨by omega, fun k x hk hx => ?_, fun x hx => ?_⟩
      · cases k with
        | zero => cases hx; exact h
        | succ k => exact ih.2.1 k x (by omega) (by simpa using hx)
      · exact ih.2.2 x (by simpa using hx)
    · rw [if_neg h]
      refine ⟨Nat.zero_le _, fun k x hk => by simp at hk, fun x hx => ?_⟩
      cases hx
      simpa using h
/-- Where a text would stand in a span of the keys. -/
def skP (ks : List ByteArray) (f t : Nat) (x : ByteArray) : Nat := f + lowS ((ks.drop f).take (t - f)) x
theorem sub_at (ks : List ByteArray) {f t j : Nat} (hj : j < t - f) : ((ks.drop f).take (t - f))[j]? = ks[f + j]? := by
  rw [List.getElem?_take, if_pos hj, List.getElem?_drop]
theorem skP_is {ks : List ByteArray} {f t r : Nat} {x : ByteArray} (hf : f ≤ r) (hr : r ≤ t) (ht : t ≤ ks.length) (h1 : ∀ j y, f ≤ j → j < r → ks[j]? = some y → ltB y x = true) (h2 : r < t → ∀ y, ks[r]? = some y → ltB y x = false) : skP ks f t x = r := by
  unfold skP
  have e := lowS_is (ks := (ks.drop f).take (t - f)) (t := x) (r := r - f) (fun k y hk hy => by
      rw [sub_at ks (by omega)] at hy
      exact h1 (f + k) y (by omega) (by omega) hy) (fun y hy => by
      have hl := (List.getElem?_eq_some_iff.1 hy).1
      rw [List.length_take, List.length_drop] at hl
      rw [sub_at ks (by omega), show f + (r - f) = r by omega] at hy
      exact h2 (by omega) y hy) (by rw [List.length_take, List.length_drop]; omega)
  rw [e]
  omega
theorem skP_spec {ks : List ByteArray} {f t : Nat} (x : ByteArray) (hf : f ≤ t) (ht : t ≤ ks.length) : f ≤ skP ks f t x ∧ skP ks f t x ≤ t ∧ (∀ j y, f ≤ j → j < skP ks f t x → ks[j]? = some y → ltB y x = true) ∧ (skP ks f t x < t → ∀ y, ks[skP ks f t x]? = some y → ltB y x = false) := by
  obtain ⟨s1, s2, s3⟩ := lowS_spec ((ks.drop f).take (t - f)) x
  have hl : ((ks.drop f).take (t - f)).length = t - f := by rw [List.length_take, List.length_drop]; omega
  rw [hl] at s1
  unfold skP
  refine ⟨by omega, by omega, fun j y h1 h2 hy => ?_, fun h y hy => ?_⟩
  · refine s2 (j - f) y (by omega) ?_
    rw [sub_at ks (by omega), show f + (j - f) = j by omega]
    exact hy
  · refine s3 y ?_
    rw [sub_at ks (by omega)]
    exact hy
/-- Gone on from low to hi: the same place. -/
theorem skP_sub {ks : List ByteArray} {f t low hi : Nat} {x : ByteArray} (h0 : f ≤ low) (h1 : low ≤ hi) (h2 : hi ≤ t) (ht : t ≤ ks.length) (hb : ∀ j y, f ≤ j → j < low → ks[j]? = some y → ltB y x = true) (he : hi < t → low < hi ∧ ∀ y, ks[hi - 1]? = some y → ltB y x = false) : skP ks f t x = skP ks low hi x := by
  obtain ⟨s1, s2, s3, s4⟩ := skP_spec x h1 (show hi ≤ ks.length by omega)
  refine skP_is (by omega) (by omega) ht (fun j y a1 a2 hy => ?_) (fun hlt y hy => ?_)
  · rcases Nat.lt_or_ge j low with h | h
    · exact hb j y a1 h hy
    · exact s3 j y h a2 hy
  · rcases Nat.lt_or_ge (skP ks low hi x) hi with h | h
    · exact s4 h y hy
    · obtain ⟨e1, e2⟩ := he (by omega)
      obtain ⟨z, hz⟩ : ∃ z, ks[hi - 1]? = some z := ⟨_, List.getElem?_eq_getElem (by omega)⟩
      have h5 := e2 z hz
      have h6 := s3 (hi - 1) z (by omega) (by omega) hz
      rw [h6] at h5
      cases h5
theorem StrsAt.sub {w : World} {b o n : Nat} {ks : List ByteArray} (h : StrsAt w (some ⟨b, o, none⟩) n ks) {f t : Nat} (hf : f ≤ t) (ht : t ≤ n) : StrsAt w (some ⟨b, o + f, none⟩) (t - f) ((ks.drop f).take (t - f)) := by
  have hl := h.2.1
  refine ⟨by have := h.1; omega, by rw [List.length_take, List.length_drop]; omega, fun i x hx => ?_⟩
  have hi := (List.getElem?_eq_some_iff.1 hx).1
  rw [List.length_take, List.length_drop] at hi
  rw [sub_at ks (by omega)] at hx
  obtain ⟨b', o', e, hc⟩ := h.2.2 _ x hx
  cases e
  exact ⟨b, o + f, rfl, by simpa [strAt, Nat.add_assoc] using hc⟩
theorem StrsAt.nil {w : World} {a : Option Addr} : StrsAt w a 0 [] := ⟨Nat.zero_le _, rfl, fun i x hx => by simp at hx⟩
set_option maxRecDepth 100000 in
set_option maxHeartbeats 4000000 in
theorem c_seek (pt d : Nat) (ways : List (List ByteArray)) (i f t : Nat) (x : ByteArray) (w : World) (h : TrieV w pt d ways) (hi : i < d) (hft : f ≤ t) (ht : t ≤ wid ways i ways.length) (hpos : 0 < ways.length) (hrise : ∀ p q a b, f ≤ p → p ≤ q → q < t → (keysM ways i ways.length)[p]? = some a → (keysM ways i ways.length)[q]? = some b → ltB b x = true → ltB a x = true) (hn : ways.length ≤ 1000000) :
    Calls Tryz.prog 138 #[.pointer (some ⟨pt, 0, none⟩), .int .i64 (i : Int), spanV (f, t), .string x] w fun e w' => e = .returned (.int .i64 (skP (keysM ways i ways.length) f t x : Nat)) ∧ Ext w w' := by
  obtain ⟨g, h0, h1⟩ := h.keys
  obtain ⟨ka, kc, h2, h3, h4, h5⟩ := h1 i hi
  have hwl := wid_le ways i ways.length
  have hwp : 0 < wid ways i ways.length := by
    have := wid_mono ways i (show 1 ≤ ways.length from hpos)
    have h1 : wid ways i 1 = _ := wid_succ ways i 0
    rw [fresh_zero, if_pos rfl, wid_zero] at h1
    omega
  obtain ⟨ks, hks⟩ : ∃ ks, keysM ways i ways.length = ks := ⟨_, rfl⟩
  have hkl : ks.length = wid ways i ways.length := by rw [← hks, keysM_len]
  rw [hks] at h3 hrise ⊢
  obtain ⟨M, hM⟩ : ∃ M, wid ways i ways.length = M := ⟨_, rfl⟩
  rw [hM] at ht h2 h3 h5 hkl hwl hwp
  obtain ⟨_, kb, ko, _, e, _⟩ := h3.2.at (i := 0) hwp
  subst e
  have H3 := Lib.hid h3
  have HR := Lib.hid hrise
  have HKL := Lib.hid hkl
  have p1 : (i : Int) < (d : Int) := by omega
  unfold spanV
  dsimp only
  clear h h1 h3 h4 hrise hks hM hkl
  go_enter Tryz.func138, Tryz.ntmps138
  go_wp2
  go_step3
  refine wp_gen (fun W0 hW0 => ?_)
  have hE0 : Ext w W0 := by rw [hW0]; exact ext_alloc (Below.refl _ _) _
  have E0 := Lib.hid hE0
  have k0 := keep hE0 h0
  have k1 := keep hE0 h2
  have b0 : W0.cell? ⟨w.heap.size, 0, none⟩ = some (.int .i64 (f : Int)) := by rw [hW0]; go_simp
  have b1 : W0.cell? ⟨w.heap.size, 1, none⟩ = some (.int .i64 (t : Int)) := by rw [hW0]; go_simp
  obtain ⟨B, hB⟩ : ∃ B, w.heap.size = B := ⟨_, rfl⟩
  rw [hB] at b0 b1 ⊢
  have HS := Lib.hid (H3.out.keep hE0)
  clear hW0 hE0 h0 h2 hB H3
  go_wp2
  go_step3
  go_upto_block 0 with (fail)
  go_cut [10, 11] (fun v10 v11 wc => wc = W0 ∧ ∃ low step : Nat, f ≤ low ∧ low ≤ t ∧ 1 ≤ step ∧ step ≤ 1000001 ∧ v10 = .int .i64 (low : Int) ∧ v11 = .int .i64 (step : Int) ∧ (∀ j y, f ≤ j → j < low → ks[j]? = some y → ltB y x = true) ∧ (low + step ≤ t → ∀ y, ks[low + step - 1]? = some y → ltB y x = false))
  case first =>
    go_wp2
    go_loopw [10, 11] (fun v10 v11 wj => wj = W0 ∧ ∃ low step : Nat, f ≤ low ∧ low ≤ t ∧ step + f = low + 1 ∧ v10 = .int .i64 (low : Int) ∧ v11 = .int .i64 (step : Int) ∧ ∀ j y, f ≤ j → j < low → ks[j]? = some y → ltB y x = true) (fun v10 _ _ => t - (intOf v10).toNat)
    case atStart => exact ⟨rfl, f, 1, Nat.le_refl _, hft, by omega, rfl, rfl, fun j y h1 h2 => by omega⟩
    case round =>
      obtain ⟨rfl, low, step, hl1, hl2, hst, rfl, rfl, hq⟩ := hrel
      have HQ := Lib.hid hq
      clear hq
      by_cases hle : low + step ≤ t
      · have q1 : (low : Int) + (step : Int) ≤ (t : Int) := by omega
        obtain ⟨y, b', o', hy, e, hc⟩ := HS.out.2.at (i := low + step - 1) (by omega)
        cases e
        have HY := Lib.hid hy
        have g1 : wr.cell? ⟨kb, ko + (low + step - 1), none⟩ = some (.string y) := by simpa [strAt] using hc
        clear hy hc
        have q2 : (low : Int) + (step : Int) - 1 < (M : Int) := by omega
        have q3 : (0 : Int) ≤ (low : Int) + (step : Int) - 1 := by omega
        have q4 : ((low : Int) + (step : Int) - 1).toNat = low + step - 1 := by omega
        obtain ⟨q, hq⟩ : ∃ q, Op.bytesLess y.toList x.toList = q := ⟨_, rfl⟩
        have HB : Hid (ltB y x = q) := hq
        cases q with
        | true =>
          have NX : Hid (∀ j z, f ≤ j → j < low + step → ks[j]? = some z → ltB z x = true) := fun j z h1 h2 hz => HR.out j (low + step - 1) z y h1 (by omega) (by omega) hz HY.out HB.out
          go_wp2
          go_roundw
          case rel => exact ⟨by first | trivial | rfl, low + step, step * 2, by omega, hle, by omega, by go_num, by go_num, NX.out⟩
          case measure => simp [intOf]; omega
        | false =>
          go_wp2
          go_meet
          exact ⟨rfl, low, step, hl1, hl2, by omega, by omega, rfl, rfl, HQ.out, fun _ z hz => by
            have := HY.out.symm.trans hz
            cases this
            exact HB.out⟩
      · have q1 : ¬ (low : Int) + (step : Int) ≤ (t : Int) := by omega
        go_wp2
        go_meet
        exact ⟨rfl, low, step, hl1, hl2, by omega, by omega, rfl, rfl, HQ.out, fun h => absurd h hle⟩
  case rest =>
    obtain ⟨rfl, low, step, hl1, hl2, hs1, hs2, rfl, rfl, hq, hq2⟩ := hcut
    obtain ⟨hi2, hhi, hhi2, hle2⟩ : ∃ hi2 : Nat, (low + step ≤ t → hi2 = low + step) ∧ (¬ low + step ≤ t → hi2 = t) ∧ low ≤ hi2 ∧ hi2 ≤ t := by
      by_cases h : low + step ≤ t
      · exact ⟨low + step, fun _ => rfl, fun h2 => absurd h h2, by omega, h⟩
      · exact ⟨t, fun h2 => absurd h2 h, fun _ => rfl, hl2, Nat.le_refl _⟩
    have SK : Hid (skP ks f t x = skP ks low hi2 x) := skP_sub hl1 hle2.1 hle2.2 (by have := HKL.out; omega) hq (fun hlt => by
      by_cases h : low + step ≤ t
      · obtain rfl := hhi h
        exact ⟨by omega, hq2 h⟩
      · have := hhi2 h
        omega)
    have CT : Hid (CutS ((ks.drop low).take (hi2 - low)) x) := fun p q a b hpq ha hb hlt => by
      have la := (List.getElem?_eq_some_iff.1 ha).1
      have lb := (List.getElem?_eq_some_iff.1 hb).1
      rw [List.length_take, List.length_drop] at la lb
      rw [sub_at ks (by omega)] at ha hb
      exact HR.out (low + p) (low + q) a b (by omega) (by omega) (by omega) ha hb hlt
    have ST : Hid (StrsAt wc (some ⟨kb, ko + low, none⟩) (hi2 - low) ((ks.drop low).take (hi2 - low))) := HS.out.sub hle2.1 (by omega)
    obtain ⟨hle3, hle4⟩ := hle2
    have q0 : (low : Int) ≤ (kc : Int) := by omega
    have q1 : (hi2 : Int) ≤ (kc : Int) := by omega
    have q2 : (low : Int) ≤ (hi2 : Int) := by omega
    have q3 : (hi2 : Int) ≤ (M : Int) := by omega
    have BS : Hid (∀ a' c', (low < hi2 → a' = some ⟨kb, ko + low, none⟩) → Calls Tryz.prog 141 #[.slice a' (hi2 - low) c', .string x] wc fun e w' => e = .returned (.tuple #[.int .i64 (lowS ((ks.drop low).take (hi2 - low)) x : Nat), .bool (foundS ((ks.drop low).take (hi2 - low)) x)]) ∧ w' = wc) := fun a' c' ha => by
      rcases Nat.lt_or_ge low hi2 with h | h
      · rw [ha h]
        exact c_bs _ _ _ _ _ _ ST.out CT.out (by omega)
      · have e : hi2 - low = 0 := by omega
        rw [e, List.take_zero]
        exact c_bs _ _ _ _ _ _ StrsAt.nil (fun p q a b _ ha => by simp at ha) (by omega)
    have SK2 : Hid (skP ks f t x = low + lowS ((ks.drop low).take (hi2 - low)) x) := SK.out
    obtain ⟨r, hr⟩ : ∃ r, lowS ((ks.drop low).take (hi2 - low)) x = r := ⟨_, rfl⟩
    obtain ⟨fo, hfo⟩ : ∃ fo, foundS ((ks.drop low).take (hi2 - low)) x = fo := ⟨_, rfl⟩
    rw [hr] at BS SK2
    rw [hfo] at BS
    have hrl : r ≤ 1000000 := by
      have := (lowS_spec ((ks.drop low).take (hi2 - low)) x).1
      rw [hr, List.length_take] at this
      omega
    clear hq hq2 hr hfo
    have hmin : (min ((low : Int) + (step : Int)) (t : Int)).toNat = hi2 := by
      by_cases h : low + step ≤ t
      · have := hhi h
        omega
      · have := hhi2 h
        omega
    have l1 : (low : Int) ≤ min ((low : Int) + (step : Int)) (t : Int) := by omega
    have l2 : min ((low : Int) + (step : Int)) (t : Int) ≤ (kc : Int) := by omega
    have l3 : (0 : Int) ≤ min ((low : Int) + (step : Int)) (t : Int) := by omega
    clear hhi hhi2
    by_cases hc : low = kc
    · subst hc
      have BS2 := Lib.hid (fun a' c' => BS.out a' c' (fun h => by omega))
      go_wp2_with (go_at_call 141; (with_reducible refine (BS2.out _ _).mono ?_); rintro e w1 ⟨rfl, hw1⟩; obtain rfl := hw1.symm)
      rw [Exit.noGoto_ret]

      go_ret
      exact ⟨ret_int (by rw [SK2.out]; rfl), E0.out⟩
    · have hc2 : ¬ kc = low := fun e => hc e.symm
      have BS2 := Lib.hid (BS.out (some ⟨kb, ko + low, none⟩) (kc - low) (fun _ => rfl))
      go_wp2_with (go_at_call 141; (with_reducible refine BS2.out.mono ?_); rintro e w1 ⟨rfl, hw1⟩; obtain rfl := hw1.symm)
      rw [Exit.noGoto_ret]

      go_ret
      exact ⟨ret_int (by rw [SK2.out]; rfl), E0.out⟩
end Go.Proofs.YtpgbenijjodoeaaGreat
