/- Walks that read a trie: none, Depth, Len, below, ways. -/
import Derived.Test.YthjpfplebbnbpaaGreatBuild
import Derived.StillTailTactics
namespace Go.Proofs.YthjpfplebbnbpaaGreat
open Go.ChangeShapes Go.WideShapes Go.ChangeAt Go.RowKit
theorem TrieV.froms {w : World} {pt d : Nat} {ways : List (List ByteArray)} (h : TrieV w pt d ways) : ∃ g, w.cell? ⟨pt, 0, none⟩ = some (.slice (some ⟨g, 0, none⟩) d d) ∧ ∀ i, i < d → ∃ b o fc, w.cell? ⟨g, i * 2 + 1, none⟩ = some (.slice (some ⟨b, o, none⟩) (wid ways i ways.length + 1) fc) ∧ ∀ j, j ≤ wid ways i ways.length → w.cell? ⟨b, o + j, none⟩ = some (.int .i64 (wid ways (i + 1) (st ways i j) : Nat)) := by
  obtain ⟨⟨g, h1, h2⟩, _, _⟩ := h
  refine ⟨g, h1, fun i hi => ?_⟩
  obtain ⟨ka, kc, fa, fc, a1, a2, a3, _, _, a4⟩ := h2 i hi
  obtain ⟨x, b, o, _, e, _⟩ := a4.2.at (i := 0) (by omega)
  subst e
  refine ⟨b, o, fc, a2, fun j hj => ?_⟩
  obtain ⟨x, b', o', hx, e, hc⟩ := a4.2.at (i := j) (by omega)
  cases e
  rw [List.getElem?_map, fromM_at ways i j hj] at hx
  cases hx
  simpa [intAt, natV] using hc
theorem TrieV.keys {w : World} {pt d : Nat} {ways : List (List ByteArray)} (h : TrieV w pt d ways) : ∃ g, w.cell? ⟨pt, 0, none⟩ = some (.slice (some ⟨g, 0, none⟩) d d) ∧ ∀ i, i < d → ∃ ka kc, w.cell? ⟨g, i * 2, none⟩ = some (.slice ka (wid ways i ways.length) kc) ∧ StrsAt w ka (wid ways i ways.length) (keysM ways i ways.length) ∧ (ka = none → wid ways i ways.length = 0 ∧ kc = 0) ∧ wid ways i ways.length ≤ kc := by
  obtain ⟨⟨g, h1, h2⟩, _, _⟩ := h
  refine ⟨g, h1, fun i hi => ?_⟩
  obtain ⟨ka, kc, fa, fc, a1, a2, a3, a4, a5, _⟩ := h2 i hi
  exact ⟨ka, kc, a1, a3, a4, a5⟩
theorem some_ptr (b : Nat) (w : World) : (binOp .eql 28 (.pointer (some ⟨b, 0, none⟩)) (.pointer none)).run Tryz.prog w = .ok (.bool false) w := by kernel_rfl
theorem c_none (pt d : Nat) (ways : List (List ByteArray)) (w : World) (h : TrieV w pt d ways) :
    Calls Tryz.prog 26 #[.pointer (some ⟨pt, 0, none⟩)] w fun e w' => e = .returned (.bool false) ∧ w' = w := by
  have c2 := h.c2
  clear h
  go_enter Tryz.func26, Tryz.ntmps26
  go_wp2
  go_returns
  exact ⟨rfl, rfl⟩
theorem c_depth (pt d : Nat) (ways : List (List ByteArray)) (w : World) (h : TrieV w pt d ways) :
    Calls Tryz.prog 17 #[.pointer (some ⟨pt, 0, none⟩)] w fun e w' => e = .returned (.int .i64 (d : Nat)) ∧ w' = w := by
  have H := Lib.hid h
  obtain ⟨g, h0, _⟩ := h.top
  clear h
  go_enter Tryz.func17, Tryz.ntmps17
  go_wp2_with (go_at_call 26; (with_reducible refine (c_none pt d ways _ H.out).mono ?_); rintro e w1 ⟨rfl, hw1⟩; obtain rfl := hw1.symm)
  go_returns
  exact ⟨rfl, rfl⟩
theorem c_lenT (pt d : Nat) (ways : List (List ByteArray)) (w : World) (h : TrieV w pt d ways) :
    Calls Tryz.prog 16 #[.pointer (some ⟨pt, 0, none⟩)] w fun e w' => e = .returned (.int .i64 (ways.length : Nat)) ∧ w' = w := by
  have H := Lib.hid h
  have c1 := h.c1
  clear h
  go_enter Tryz.func16, Tryz.ntmps16
  go_wp2_with (go_at_call 26; (with_reducible refine (c_none pt d ways _ H.out).mono ?_); rintro e w1 ⟨rfl, hw1⟩; obtain rfl := hw1.symm)
  go_returns
  exact ⟨rfl, rfl⟩
theorem wp_gen0 {P : World → Prop} {w : World} (h : ∀ W, W = w → P W) : P w := h w rfl
def spanV (s : Nat × Nat) : Value := .agg #[.int .i64 (s.1 : Nat), .int .i64 (s.2 : Nat)]
/-- The span of what follows place j of level i. -/
def belowS (ways : List (List ByteArray)) (i j : Nat) : Nat × Nat := (wid ways (i + 1) (st ways i j), wid ways (i + 1) (st ways i (j + 1)))
set_option maxRecDepth 100000 in
theorem c_below (pt d : Nat) (ways : List (List ByteArray)) (i j : Nat) (w : World) (h : TrieV w pt d ways) (hi : i < d) (hj : j < wid ways i ways.length) (hn : ways.length ≤ 1000000) :
    Calls Tryz.prog 48 #[.pointer (some ⟨pt, 0, none⟩), .int .i64 (i : Int), .int .i64 (j : Int)] w fun e w' => e = .returned (spanV (belowS ways i j)) ∧ Ext w w' := by
  obtain ⟨g, h0, h1⟩ := h.froms
  obtain ⟨b, o, fc, h2, h3⟩ := h1 i hi
  have g1 := h3 j (by omega)
  have g2 := h3 (j + 1) (by omega)
  have hwl := wid_le ways i ways.length
  obtain ⟨N, hN⟩ : ∃ N, wid ways i ways.length + 1 = N := ⟨_, rfl⟩
  have hjN : j + 1 < N := by omega
  rw [hN] at h2
  unfold belowS spanV
  dsimp only
  obtain ⟨x, hx⟩ : ∃ x : Nat, wid ways (i + 1) (st ways i j) = x := ⟨_, rfl⟩
  obtain ⟨y, hy⟩ : ∃ y : Nat, wid ways (i + 1) (st ways i (j + 1)) = y := ⟨_, rfl⟩
  rw [hx] at g1
  rw [hy] at g2
  rw [hx, hy]
  have e (o' : Obj) : Ext w (w.alloc o') := ext_alloc (Below.refl _ w) o'
  have k0 := fun o' => keep (e o') h0
  have k1 := fun o' => keep (e o') h2
  have k2 := fun o' => keep (e o') g1
  have k3 := fun o' => keep (e o') g2
  have p1 : (i : Int) < (d : Int) := by omega
  have p2 : (j : Int) < (N : Int) := by omega
  have p3 : (j : Int) + 1 < (N : Int) := by omega
  have p4 : (0 : Int) ≤ (j : Int) + 1 := by omega
  have p5 : ((j : Int) + 1).toNat = j + 1 := by omega
  have p6 : IntKind.i64.wrap ((j : Int) + 1) = (j : Int) + 1 := wrapS (by omega)
  clear h h1 h3 hx hy hN h0 h2 g1 g2
  go_enter Tryz.func48, Tryz.ntmps48
  go_wp2
  refine wp_gen (fun W0 hW0 => ?_)
  have E0 : Hid (Ext w W0) := by show Ext _ _; rw [hW0]; exact e _
  have c0 : W0.cell? ⟨pt, 0, none⟩ = some (.slice (some ⟨g, 0, none⟩) d d) := by rw [hW0]; exact k0 _
  have c1 : W0.cell? ⟨g, i * 2 + 1, none⟩ = some (.slice (some ⟨b, o, none⟩) N fc) := by rw [hW0]; exact k1 _
  have c2 : W0.cell? ⟨b, o + j, none⟩ = some (.int .i64 (x : Int)) := by rw [hW0]; exact k2 _
  have c3 : W0.cell? ⟨b, o + (j + 1), none⟩ = some (.int .i64 (y : Int)) := by rw [hW0]; exact k3 _
  have z0 : W0.cell? ⟨w.heap.size, 0, none⟩ = some (.int .i64 0) := by rw [hW0]; go_simp
  have z1 : W0.cell? ⟨w.heap.size, 1, none⟩ = some (.int .i64 0) := by rw [hW0]; go_simp
  have f0 : W0.frozen? ⟨w.heap.size, 0, none⟩ = false := by rw [hW0]; go_simp
  have f1 : W0.frozen? ⟨w.heap.size, 1, none⟩ = false := by rw [hW0]; go_simp
  clear hW0 k0 k1 k2 k3 e
  go_still_tail 24, (by kernel_rfl)
  go_wp2
  refine wp_gen0 (fun W hW => ?_)
  have S0 : W.cell? ⟨w.heap.size, 0, none⟩ = some (.int .i64 (x : Int)) := by rw [hW]; go_simp
  have S1 : W.cell? ⟨w.heap.size, 1, none⟩ = some (.int .i64 (y : Int)) := by rw [hW]; go_simp
  have hE : Ext w W := by rw [hW]; exact ext_set (ext_set (ext_drew E0.out) (Nat.le_refl _) _) (Nat.le_refl _) _
  refine bodyPost_ret (by simp [results, Tryz.results48, go_sem, S0, S1]; try rfl) rfl ?_
  exact ⟨rfl, hE⟩
/-- How many ways go through place j of level i. -/
def cntW (ways : List (List ByteArray)) (i j : Nat) : Nat := st ways i (j + 1) - st ways i j
theorem place_at {ways : List (List ByteArray)} {k m : Nat} (h : Stop ways k m) : st ways k (wid ways k m) = m := st_wid ways k h
set_option maxRecDepth 100000 in
set_option maxHeartbeats 1000000 in
theorem c_ways (pt d : Nat) (ways : List (List ByteArray)) (i j : Nat) (w : World) (h : TrieV w pt d ways) (hw : Ways d ways) (hi : i < d) (hj : j < wid ways i ways.length) (hd : d ≤ 64) (hn : ways.length ≤ 1000000) :
    Calls Tryz.prog 46 #[.pointer (some ⟨pt, 0, none⟩), .int .i64 (i : Int), .int .i64 (j : Int)] w fun e w' => e = .returned (.int .i64 (cntW ways i j : Nat)) ∧ Ext w w' := by
  have H := Lib.hid h
  have HWA := Lib.hid hw
  obtain ⟨g, h0, h1⟩ := h.froms
  have H1 := Lib.hid h1
  have bl := c_below pt d ways i j w h hi hj hn
  have A1 := st_stop ways i j
  have A2 := st_stop ways i (j + 1)
  have B1 := st_le ways i (j + 1)
  have B2 := st_mono ways i (Nat.le_succ j) (by omega)
  unfold belowS spanV at bl
  dsimp only at bl
  unfold cntW
  obtain ⟨m1, hm1⟩ : ∃ m1, st ways i j = m1 := ⟨_, rfl⟩
  obtain ⟨m2, hm2⟩ : ∃ m2, st ways i (j + 1) = m2 := ⟨_, rfl⟩
  rw [hm1] at bl A1 B2 ⊢
  rw [hm2] at bl A2 B1 B2 ⊢
  have BL := Lib.hid bl
  have SA1 := Lib.hid A1
  have SA2 := Lib.hid A2
  clear bl A1 A2
  clear h h1 hw hj hm1 hm2
  go_enter Tryz.func46, Tryz.ntmps46
  go_wp2_with (go_at_call 48; (with_reducible refine BL.out.mono ?_); rintro e w1 ⟨rfl, hE⟩)
  refine wp_gen (fun W0 hW0 => ?_)
  have E0 : Hid (Ext w W0) := by
    show Ext _ _
    rw [hW0]
    first | exact ext_set (ext_set (ext_alloc hE _) hE.size _) hE.size _ | exact ext_alloc hE _
  have b0 : W0.cell? ⟨w1.heap.size, 0, none⟩ = some (.int .i64 (wid ways (i + 1) m1 : Nat)) := by rw [hW0]; go_simp
  have b1 : W0.cell? ⟨w1.heap.size, 1, none⟩ = some (.int .i64 (wid ways (i + 1) m2 : Nat)) := by rw [hW0]; go_simp
  have b2 : W0.frozen? ⟨w1.heap.size, 0, none⟩ = false := by rw [hW0]; go_simp
  have b3 : W0.frozen? ⟨w1.heap.size, 1, none⟩ = false := by rw [hW0]; go_simp
  have hz : w.heap.size ≤ w1.heap.size := hE.size
  obtain ⟨B, hB⟩ : ∃ B, w1.heap.size = B := ⟨_, rfl⟩
  rw [hB] at b0 b1 b2 b3 hz ⊢
  clear hW0 hB hE
  have BB0 := Lib.hid b0
  have BB1 := Lib.hid b1
  clear b0 b1
  go_loopw [8] (fun v8 wj => ∃ k : Nat, i + 1 ≤ k ∧ k ≤ d ∧ v8 = .int .i64 (k : Int) ∧ Ext w wj ∧ wj.cell? ⟨B, 0, none⟩ = some (.int .i64 (wid ways k m1 : Nat)) ∧ wj.cell? ⟨B, 1, none⟩ = some (.int .i64 (wid ways k m2 : Nat)) ∧ wj.frozen? ⟨B, 0, none⟩ = false ∧ wj.frozen? ⟨B, 1, none⟩ = false) (fun v8 _ => d - (intOf v8).toNat)
  case atStart => exact ⟨i + 1, Nat.le_refl _, hi, by first | rfl | go_num, E0.out, BB0.out, BB1.out, b2, b3⟩
  case round =>
    obtain ⟨k, hik, hk, rfl, he, c0, c1, f0, f1⟩ := hrel
    clear b2 b3
    have HE := Lib.hid he
    have k0 := keep he h0
    by_cases hlt : k < d
    · have p1 : (k : Int) < (d : Int) := by omega
      obtain ⟨b, o, fc, q1, q2⟩ := H1.out k hlt
      have x1 := q2 (wid ways k m1) (wid_mono ways k (by omega))
      have x2 := q2 (wid ways k m2) (wid_mono ways k B1)
      rw [place_at (SA1.out.up (by omega))] at x1
      rw [place_at (SA2.out.up (by omega))] at x2
      have l1 := wid_mono ways k (show m1 ≤ ways.length by omega)
      have l2 := wid_mono ways k B1
      obtain ⟨N, hN⟩ : ∃ N, wid ways k ways.length + 1 = N := ⟨_, rfl⟩
      rw [hN] at q1
      obtain ⟨s1, hs1⟩ : ∃ s1, wid ways k m1 = s1 := ⟨_, rfl⟩
      obtain ⟨s2, hs2⟩ : ∃ s2, wid ways k m2 = s2 := ⟨_, rfl⟩
      rw [hs1] at x1 c0 l1
      rw [hs2] at x2 c1 l2
      obtain ⟨t1, ht1⟩ : ∃ t1, wid ways (k + 1) m1 = t1 := ⟨_, rfl⟩
      obtain ⟨t2, ht2⟩ : ∃ t2, wid ways (k + 1) m2 = t2 := ⟨_, rfl⟩
      rw [ht1] at x1
      rw [ht2] at x2
      have T1 := Lib.hid ht1
      have T2 := Lib.hid ht2
      have r1 := keep he q1
      have r2 := keep he x1
      have r3 := keep he x2
      have p2 : (s1 : Int) < (N : Int) := by omega
      have p3 : (s2 : Int) < (N : Int) := by omega
      clear q1 q2 x1 x2 hN hs1 hs2 ht1 ht2 he
      go_wp2
      go_still_tail 25, (by kernel_rfl)
      all_goals
        go_wp2
        go_roundw
        case rel => exact ⟨k + 1, by omega, by omega, by go_num, ext_set (ext_set (ext_drew HE.out) hz _) hz _, by rw [T1.out]; go_simp, by rw [T2.out]; go_simp, by go_simp, by go_simp⟩
        case measure => simp [intOf]; omega
    · obtain rfl : k = d := by omega
      have hge : ¬ (k : Int) < (k : Int) := by omega
      have e1 := HWA.out.wid_d (i := k) (by omega) (show m1 ≤ ways.length by omega)
      have e2 := HWA.out.wid_d (i := k) (by omega) B1
      rw [e1] at c0
      rw [e2] at c1
      clear e1 e2
      have e3 : (m2 : Int) - (m1 : Int) = ((m2 - m1 : Nat) : Int) := by omega
      have e4 : IntKind.i64.wrap ((m2 : Int) - (m1 : Int)) = (m2 : Int) - (m1 : Int) := by rw [IntKind.wrap_i64]; omega
      have E3 := Lib.hid e3
      clear e3
      go_wp2
      go_returns
      exact ⟨ret_int E3.out, HE.out⟩
end Go.Proofs.YthjpfplebbnbpaaGreat
