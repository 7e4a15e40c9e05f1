/- The walks of the trie's Count, Follow, Walk. -/
import Derived.Test.YthjpfplebbnbpaaGreatFnd
namespace Go.Proofs.YthjpfplebbnbpaaGreat
open Go.ChangeShapes Go.WideShapes Go.ChangeAt Go.RowKit
theorem filter_span {α : Type} (p : α → Bool) : ∀ (l : List α) (A B : Nat), A ≤ B → B ≤ l.length → (∀ m x, l[m]? = some x → (p x = true ↔ A ≤ m ∧ m < B)) → (l.filter p).length = B - A
  | [], A, B, h1, h2, _ => by simp at h2; simp; omega
  | a :: l, A, B, h1, h2, h => by
    have h0 := h 0 a rfl
    cases B with
    | zero =>
      have hp : ¬ p a = true := fun e => by have := h0.1 e; omega
      rw [List.filter_cons_of_neg hp, filter_span p l 0 0 (Nat.le_refl _) (Nat.zero_le _) (fun m x hx => by rw [h (m + 1) x hx]; omega)]
      omega
    | succ B =>
      rw [List.length_cons] at h2
      cases A with
      | zero =>
        have hp : p a = true := h0.2 ⟨Nat.le_refl _, by omega⟩
        rw [List.filter_cons_of_pos hp, List.length_cons, filter_span p l 0 B (Nat.zero_le _) (by omega) (fun m x hx => by rw [h (m + 1) x hx]; omega)]
        omega
      | succ A =>
        have hp : ¬ p a = true := fun e => by have := h0.1 e; omega
        rw [List.filter_cons_of_neg hp, filter_span p l A B (by omega) (by omega) (fun m x hx => by rw [h (m + 1) x hx]; omega)]
        omega
/-- How many ways begin so. -/
def countP (ways : List (List ByteArray)) (b : List ByteArray) : Nat := (ways.filter fun r => decide (r.take b.length = b)).length
theorem wayAt_get {ways : List (List ByteArray)} {m : Nat} {x : List ByteArray} (h : ways[m]? = some x) : wayAt ways m = x := by unfold wayAt; rw [h]; rfl
theorem FindSt.count {ways : List (List ByteArray)} {b : List ByteArray} {p A B : Nat} (h : FindSt ways b b.length p A B) : countP ways b = B - A := by
  refine filter_span _ ways A B h.seg.le h.seg.top (fun m x hx => ?_)
  have e := wayAt_get hx
  have hm := (List.getElem?_eq_some_iff.1 hx).1
  rw [decide_eq_true_eq, ← e]
  have hb : b.take b.length = b := List.take_length
  constructor
  · intro h1
    exact h.all m hm (by rw [hb]; exact h1)
  · intro ⟨h1, h2⟩
    have := h.pre_at h1 h2
    rwa [hb] at this
theorem count_none {ways : List (List ByteArray)} {b : List ByteArray} (h : ∀ m, m < ways.length → (wayAt ways m).take b.length ≠ b) : countP ways b = 0 := by
  unfold countP
  rw [List.length_eq_zero_iff, List.filter_eq_nil_iff]
  intro x hx
  obtain ⟨m, hm⟩ := List.mem_iff_getElem?.1 hx
  have := h m (List.getElem?_eq_some_iff.1 hm).1
  rw [wayAt_get hm] at this
  simpa using this
theorem c_count (pt d : Nat) (ways : List (List ByteArray)) (b : List ByteArray) (ab : Option Addr) (k cb : Nat) (w : World) (h : TrieV w pt d ways) (hw : Ways d ways) (hb : StrsAt w ab k b) (hd : d ≤ 64) (hn : ways.length ≤ 1000000) :
    Calls Tryz.prog 9 #[.pointer (some ⟨pt, 0, none⟩), .slice ab k cb] w fun e w' => e = .returned (.int .i64 (countP ways b : Nat)) ∧ Ext w w' := by
  have FD := c_findT pt d ways b ab k cb w h hw hb hd hn
  refine ?_
  have H := Lib.hid h
  have HW := Lib.hid hw
  have hkl : b.length = k := hb.2.1
  have hkm : k ≤ 9223372036854775807 := hb.1
  have F := Lib.hid FD
  have F1 : Hid (Calls Tryz.prog 45 #[.pointer (some ⟨pt, 0, none⟩), .slice ab k cb] w fun e w' => Ext w w' ∧ ∃ p f, e = .returned (.tuple #[.int .i64 (p : Nat), .bool f]) ∧ ((f = true ∧ ∃ A B, b.length ≤ d ∧ FindSt ways b b.length p A B) ∨ (f = false ∧ countP ways b = 0))) := F.out.mono fun e w' ⟨h1, h2⟩ => ⟨h1, by
    rcases h2 with ⟨p, A, B, rfl, h3, h4⟩ | ⟨rfl, h3⟩
    · exact ⟨p, true, rfl, .inl ⟨rfl, A, B, h3, h4⟩⟩
    · exact ⟨0, false, rfl, .inr ⟨rfl, count_none h3⟩⟩⟩
  have c1 := h.c1
  clear FD F h hw hb
  go_enter Tryz.func9, Tryz.ntmps9
  go_upto_region 2 with (go_at_call 45; (with_reducible refine F1.out.mono ?_); rintro e w1 ⟨hE, p, f, rfl, hf⟩)
  have hc1 := keep hE c1
  rcases hf with ⟨rfl, A, B, hkd, fs⟩ | ⟨rfl, hz⟩
  · have FS := Lib.hid fs
    rw [hkl] at hkd
    by_cases hk : k = 0
    · have hq : ((k : Int) == 0) = true := by simpa using hk
      have HC : Hid (countP ways b = ways.length) := by
        show _ = _
        obtain ⟨_, e1, e2⟩ := fs.zero (by omega)
        rw [fs.count, e1, e2, Nat.sub_zero]
      clear fs hk
      go_wp2
      go_returns
      exact ⟨ret_int (by rw [HC.out]), hE⟩
    · have hq : ((k : Int) == 0) = false := beq_eq_false_iff_ne.2 (by omega)
      obtain ⟨e0, e1, e2⟩ := fs.pos (by omega)
      have HC : Hid (countP ways b = cntW ways (k - 1) p) := by
        show _ = _
        unfold cntW
        rw [fs.count, e1, e2, hkl]
      obtain ⟨j, rfl⟩ : ∃ j, k = j + 1 := ⟨k - 1, by omega⟩
      rw [hkl, Nat.add_sub_cancel] at e0
      rw [Nat.add_sub_cancel] at HC
      have WY := Lib.hid (c_ways pt d ways j p w1 (H.out.ext hE) HW.out (by omega) e0 hd hn)
      have r1 : IntKind.i64.wrap (j : Int) = (j : Int) := by rw [IntKind.wrap_i64]; omega
      clear fs hk e0 e1 e2
      go_wp2_with (go_at_call 46; (with_reducible refine WY.out.mono ?_); rintro e w2 ⟨rfl, hE2⟩)
      go_returns
      exact ⟨ret_int (by rw [HC.out]), ext_trans hE hE2⟩
  · have HZ := Lib.hid hz
    clear hz
    go_wp2
    go_returns
    exact ⟨ret_int (by rw [HZ.out]; rfl), hE⟩
/-- The keys of what follows where ways A to B begin alike. -/
def segKeys (ways : List (List ByteArray)) (k A B : Nat) : List ByteArray := ((keysM ways k ways.length).drop (wid ways k A)).take (wid ways k B - wid ways k A)
/-- What follows a beginning. -/
def FolIs (d : Nat) (ways : List (List ByteArray)) (b xs : List ByteArray) : Prop := (∃ p A B, b.length < d ∧ FindSt ways b b.length p A B ∧ xs = segKeys ways b.length A B) ∨ ((d ≤ b.length ∨ ∀ m, m < ways.length → (wayAt ways m).take b.length ≠ b) ∧ xs = [])
def FolPost (d : Nat) (ways : List (List ByteArray)) (b : List ByteArray) (w : World) (e : Ending) (w' : World) : Prop := ∃ a n c xs, e = .returned (.slice a n c) ∧ w'.ownsRow w.heap.size 9 1 (.slice a n c) n (xs.map Value.string) ∧ Ext w w' ∧ FolIs d ways b xs ∧ n ≤ 1000000
set_option maxRecDepth 100000 in
set_option maxHeartbeats 1000000 in
theorem c_follow (pt d : Nat) (ways : List (List ByteArray)) (b : List ByteArray) (ab : Option Addr) (k cb : Nat) (w : World) (h : TrieV w pt d ways) (hw : Ways d ways) (hb : StrsAt w ab k b) (hd : d ≤ 64) (hn : ways.length ≤ 1000000) :
    Calls Tryz.prog 10 #[.pointer (some ⟨pt, 0, none⟩), .slice ab k cb] w (FolPost d ways b w) := by
  have FD := c_findT pt d ways b ab k cb w h hw hb hd hn
  have H := Lib.hid h
  have hkl : b.length = k := hb.2.1
  have hkm : k ≤ 9223372036854775807 := hb.1
  have F := Lib.hid FD
  have F1 : Hid (Calls Tryz.prog 45 #[.pointer (some ⟨pt, 0, none⟩), .slice ab k cb] w fun e w' => Ext w w' ∧ ∃ p f, e = .returned (.tuple #[.int .i64 (p : Nat), .bool f]) ∧ ((f = true ∧ ∃ A B, b.length ≤ d ∧ FindSt ways b b.length p A B) ∨ (f = false ∧ ∀ m, m < ways.length → (wayAt ways m).take b.length ≠ b))) := F.out.mono fun e w' ⟨h1, h2⟩ => ⟨h1, by
    rcases h2 with ⟨p, A, B, rfl, h3, h4⟩ | ⟨rfl, h3⟩
    · exact ⟨p, true, rfl, .inl ⟨rfl, A, B, h3, h4⟩⟩
    · exact ⟨0, false, rfl, .inr ⟨rfl, h3⟩⟩⟩
  obtain ⟨g, h0, h1⟩ := h.keys
  have HK := Lib.hid h1
  clear FD F h hw hb h1
  go_enter Tryz.func10, Tryz.ntmps10
  go_upto_region 2 with (go_at_call 45; (with_reducible refine F1.out.mono ?_); rintro e w1 ⟨hE, p, f, rfl, hf⟩)
  have g0 := keep hE h0
  have DP := Lib.hid (c_depth pt d ways w1 (H.out.ext hE))
  rcases hf with ⟨rfl, A, B, hkd, fs⟩ | ⟨rfl, hz⟩
  · have FS := Lib.hid fs
    have hkd2 := hkd
    rw [hkl] at hkd2
    by_cases hkk : k = d
    · have hq : ((k : Int) == (d : Int)) = true := by rw [hkk]; simp
      have HP : Hid (∀ w9, Ext w w9 → FolPost d ways b w (.returned (.slice none 0 0)) w9) := fun w9 h9 => ⟨none, 0, 0, [], rfl, World.ownsRow_nil _ _ _ _, h9, .inr ⟨.inl (by omega), rfl⟩, Nat.zero_le _⟩
      clear fs hkk
      go_wp2_with (go_at_call 17; (with_reducible refine DP.out.mono ?_); rintro e w2 ⟨rfl, hw2⟩; obtain rfl := hw2.symm)
      go_returns
      exact HP.out _ hE
    · have hq : ((k : Int) == (d : Int)) = false := beq_eq_false_iff_ne.2 (by omega)
      obtain ⟨ka, kc, z1, z2, z3, z4⟩ := HK.out k (by omega)
      have k1 := keep hE z1
      have hwl := wid_le ways k ways.length
      have u1 : (k : Int) < (d : Int) := by omega
      by_cases hk : k = 0
      · subst hk
        obtain ⟨_, e1, e2⟩ := fs.zero (by omega)
        rw [Nat.zero_mul] at k1
        have HP : Hid (∀ a c w9, w9.ownsRow w1.heap.size 9 1 (.slice a (wid ways 0 ways.length) c) (wid ways 0 ways.length) ((keysM ways 0 ways.length).map Value.string) → Ext w1 w9 → FolPost d ways b w (.returned (.slice a (wid ways 0 ways.length) c)) w9) := fun a c w9 h8 h9 => ⟨a, _, c, _, rfl, own_base h8 hE.size, ext_trans hE h9, .inl ⟨p, A, B, by omega, FS.out, by
          unfold segKeys
          rw [e1, e2, hkl, wid_zero, List.drop_zero, Nat.sub_zero, List.take_of_length_le (by rw [keysM_len]; exact Nat.le_refl _)]⟩, by omega⟩
        have CL := Lib.hid (c_cloneS (keysM ways 0 ways.length) ka (wid ways 0 ways.length) kc w1 (z2.keep hE) (by omega) z3)
        clear fs z1 z2 z3
        go_wp2_with (first
          | (go_at_call 17; (with_reducible refine DP.out.mono ?_); rintro e w2 ⟨rfl, hw2⟩; obtain rfl := hw2.symm)
          | (go_at_call 47; (with_reducible refine CL.out.mono ?_); rintro e w3 ⟨a', c', rfl, r3, _, E3⟩))
        go_returns
        exact HP.out _ _ _ r3 E3
      · obtain ⟨e0, e1, e2⟩ := fs.pos (by omega)
        have wb := wid_mono ways k fs.seg.top
        have wab := wid_mono ways k fs.seg.le
        obtain ⟨j, rfl⟩ : ∃ j, k = j + 1 := ⟨k - 1, by omega⟩
        rw [hkl, Nat.add_sub_cancel] at e0 e1 e2
        have BL := Lib.hid (c_below pt d ways j p w1 (H.out.ext hE) (by omega) e0 hn)
        unfold belowS spanV at BL
        rw [← e1, ← e2] at BL
        dsimp only at BL
        have hAB := fs.lt
        have hlt : wid ways (j + 1) A < wid ways (j + 1) B := by
          have n1 := fs.seg.ndIn (Nat.le_refl _) hAB
          rw [hkl] at n1
          omega
        obtain ⟨_, kb, ko, _, e, _⟩ := z2.2.at (i := 0) (by omega)
        subst e
        have CL : Hid (∀ w3, Ext w1 w3 → ∀ c, Calls Tryz.prog 47 #[.slice (some ⟨kb, ko + wid ways (j + 1) A, none⟩) (wid ways (j + 1) B - wid ways (j + 1) A) c] w3 fun e w' => ∃ a' c', e = .returned (.slice a' (wid ways (j + 1) B - wid ways (j + 1) A) c') ∧ w'.ownsRow w3.heap.size 9 1 (.slice a' (wid ways (j + 1) B - wid ways (j + 1) A) c') (wid ways (j + 1) B - wid ways (j + 1) A) ((segKeys ways (j + 1) A B).map Value.string) ∧ Ext w3 w') := fun w3 h3 c => (c_cloneS _ _ _ c w3 (((z2.keep hE).keep h3).sub wab wb) (by omega) (fun e => by cases e)).mono fun e w' ⟨a', c', r1, r2, _, r4⟩ => ⟨a', c', r1, r2, r4⟩
        have HP : Hid (∀ a c w3 w9, Ext w1 w3 → w9.ownsRow w3.heap.size 9 1 (.slice a (wid ways (j + 1) B - wid ways (j + 1) A) c) (wid ways (j + 1) B - wid ways (j + 1) A) ((segKeys ways (j + 1) A B).map Value.string) → Ext w3 w9 → FolPost d ways b w (.returned (.slice a (wid ways (j + 1) B - wid ways (j + 1) A) c)) w9) := fun a c w3 w9 h3 h8 h9 => ⟨a, _, c, _, rfl, own_base h8 (Nat.le_trans hE.size h3.size), ext_trans hE (ext_trans h3 h9), .inl ⟨p, A, B, by omega, FS.out, by rw [hkl]⟩, by omega⟩
        have r1 : IntKind.i64.wrap (j : Int) = (j : Int) := by rw [IntKind.wrap_i64]; omega
        obtain ⟨M, hM⟩ : ∃ M, wid ways (j + 1) ways.length = M := ⟨_, rfl⟩
        obtain ⟨f, hf⟩ : ∃ f, wid ways (j + 1) A = f := ⟨_, rfl⟩
        obtain ⟨t, ht⟩ : ∃ t, wid ways (j + 1) B = t := ⟨_, rfl⟩
        rw [hM] at k1 z4 wb
        rw [hf] at BL CL HP wab hlt
        rw [ht] at BL CL HP wab hlt wb
        have v1 : (f : Int) ≤ (t : Int) := by omega
        have v2 : (t : Int) ≤ (kc : Int) := by omega
        have v3 : (f : Int) ≤ (kc : Int) := by omega
        have v4 : ¬ kc = f := by omega
        have v5 : (0 : Int) ≤ (j : Int) + 1 := by omega
        have v6 : (j : Int) + 1 < (d : Int) := by omega
        have v7 : ((j : Int) + 1).toNat = j + 1 := by omega
        clear fs z1 z2 z3 e0 e1 e2 hkd hAB hM hf ht
        go_upto_region 7 with (first
          | (go_at_call 17; (with_reducible refine DP.out.mono ?_); rintro e w2 ⟨rfl, hw2⟩; obtain rfl := hw2.symm)
          | (go_at_call 48; (with_reducible refine BL.out.mono ?_); rintro e w2 ⟨rfl, hE2⟩))
        refine wp_gen (fun W7 hW7 => ?_)
        have hE7 : Ext w1 W7 := by rw [hW7]; exact ext_alloc hE2 _
        have y0 : W7.cell? ⟨w2.heap.size, 0, none⟩ = some (.int .i64 (f : Int)) := by rw [hW7]; go_simp
        have y1 : W7.cell? ⟨w2.heap.size, 1, none⟩ = some (.int .i64 (t : Int)) := by rw [hW7]; go_simp
        have y2 := keep hE7 g0
        have y3 := keep hE7 k1
        have hEd : Hid (Ext w1 W7.drew) := ext_drew hE7
        clear hW7
        go_still_tail 14, (by kernel_rfl)
        change wpList _ _ _ _ _ W7.drew
        go_wp2_with (go_at_call 47; (with_reducible refine (CL.out _ hEd.out _).mono ?_); rintro e w3 ⟨a', c', rfl, r3, E3⟩)
        go_returns
        exact HP.out _ _ _ _ hEd.out r3 E3
  · have HP : Hid (∀ w9, Ext w w9 → FolPost d ways b w (.returned (.slice none 0 0)) w9) := fun w9 h9 => ⟨none, 0, 0, [], rfl, World.ownsRow_nil _ _ _ _, h9, .inr ⟨.inr hz, rfl⟩, Nat.zero_le _⟩
    clear hz
    go_wp2_with (go_at_call 17; (with_reducible refine DP.out.mono ?_); rintro e w2 ⟨rfl, hw2⟩; obtain rfl := hw2.symm)
    go_returns
    exact HP.out _ hE
end Go.Proofs.YthjpfplebbnbpaaGreat
