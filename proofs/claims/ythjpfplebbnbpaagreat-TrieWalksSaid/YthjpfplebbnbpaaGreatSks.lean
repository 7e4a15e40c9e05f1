/- What TrieSeeks says, a plain law: the ways through a place; what follows it, and their counts. -/
import Derived.Test.YthjpfplebbnbpaaGreatDfs
import Derived.Test.YthjpfplebbnbpaaGreatCnt
namespace Go.Proofs.YthjpfplebbnbpaaGreat
/-- The ways that begin as a cursor's constants are those of its place. -/
theorem CurFacts.find {d : Nat} {ways : List (List ByteArray)} (hw : Ways d ways) {pre : List (Nat × Nat)} {f t A B : Nat} (F : CurFacts d ways pre f t A B) (hft : f < t) : FindSt ways (keysOf ways (pre ++ [(f, t)])) (keysOf ways (pre ++ [(f, t)])).length f (st ways pre.length f) (st ways pre.length (f + 1)) := by
  have hb := wid_mono ways pre.length F.seg.top
  have hj : f < wid ways pre.length ways.length := by have := F.top; omega
  obtain ⟨k1, k2⟩ := F.keys hw hft
  have hl : (keysOf ways (pre ++ [(f, t)])).length = pre.length + 1 := by rw [keysOf_len]; simp
  have hs := st_spec ways pre.length f hj
  refine ⟨?_, st_lt ways pre.length (Nat.lt_succ_self f) hj, ?_, fun m hm he => ?_, fun h => by omega, fun _ => ?_⟩
  · rw [hl]
    exact seg_below ways pre.length f hj
  · rw [List.take_length, hl]
    exact k1
  · rw [List.take_length, hl, ← k1] at he
    have e := (hw.nd_iff (i := pre.length) hm k2).1 he
    rw [nd_st ways pre.length f hj] at e
    obtain ⟨_, _, b3, b4⟩ := nd_spec ways pre.length m hm
    rw [e] at b3 b4
    exact ⟨b3, b4⟩
  · rw [hl, Nat.add_sub_cancel]
    exact ⟨hj, rfl, rfl⟩
theorem FindSt.unique {ways : List (List ByteArray)} {b : List ByteArray} {i p q A B C D : Nat} (h : FindSt ways b i p A B) (k : FindSt ways b i q C D) : A = C ∧ B = D := by
  have h1 := k.all A (Nat.lt_of_lt_of_le h.lt h.seg.top) h.pre
  have h2 := h.all C (Nat.lt_of_lt_of_le k.lt k.seg.top) k.pre
  have hB := h.lt
  have hD := k.lt
  have h3 := k.all (B - 1) (by have := h.seg.top; omega) (h.pre_at (by omega) (by omega))
  have h4 := h.all (D - 1) (by have := k.seg.top; omega) (k.pre_at (by omega) (by omega))
  omega
theorem CurFacts.count {d : Nat} {ways : List (List ByteArray)} (hw : Ways d ways) {pre : List (Nat × Nat)} {f t A B : Nat} (F : CurFacts d ways pre f t A B) (hft : f < t) : countP ways (keysOf ways (pre ++ [(f, t)])) = cntW ways pre.length f ∧ 0 < cntW ways pre.length f := by
  have h := F.find hw hft
  refine ⟨h.count, ?_⟩
  have := h.lt
  unfold cntW
  omega
theorem segKeys_len {ways : List (List ByteArray)} {k A B : Nat} (h : Seg ways k A B) : (segKeys ways k A B).length = wid ways k B - wid ways k A := by
  have h1 := wid_mono ways k h.top
  have h2 := wid_mono ways k h.le
  unfold segKeys
  rw [List.length_take, List.length_drop, keysM_len]
  omega
theorem segKeys_at {ways : List (List ByteArray)} {k A B i : Nat} (h : Seg ways k A B) (hi : i < wid ways k B - wid ways k A) : (segKeys ways k A B)[i]? = some (keyAt ways k (st ways k (wid ways k A + i))) := by
  have h1 := wid_mono ways k h.top
  unfold segKeys
  rw [sub_at _ hi, keysM_at ways k _ (by omega)]
/-- What follows a cursor's constants. -/
theorem CurFacts.fol {d : Nat} {ways : List (List ByteArray)} (hw : Ways d ways) {pre : List (Nat × Nat)} {f t A B : Nat} (F : CurFacts d ways pre f t A B) (hft : f < t) (hd : pre.length + 1 < d) {xs : List ByteArray} (h : FolIs d ways (keysOf ways (pre ++ [(f, t)])) xs) : xs = segKeys ways (pre.length + 1) (st ways pre.length f) (st ways pre.length (f + 1)) := by
  have hl : (keysOf ways (pre ++ [(f, t)])).length = pre.length + 1 := by rw [keysOf_len]; simp
  have hf := F.find hw hft
  rcases h with ⟨p, C, D, h1, h2, rfl⟩ | ⟨h1, _⟩
  · obtain ⟨e1, e2⟩ := h2.unique hf
    rw [e1, e2, hl]
  · rcases h1 with h1 | h1
    · omega
    · have := hf.pre
      rw [List.take_length] at this
      exact absurd this (h1 _ (Nat.lt_of_lt_of_le hf.lt hf.seg.top))
/-- How many ways go through the first i of what follows. -/
theorem sum_step {ways : List (List ByteArray)} {k f i : Nat} (h : f + i < wid ways k ways.length) : (st ways k (f + i) - st ways k f) + cntW ways k (f + i) = st ways k (f + i + 1) - st ways k f := by
  have h1 := st_mono ways k (Nat.le_add_right f i) (by omega)
  have h2 := st_mono ways k (show f + i ≤ f + i + 1 by omega) h
  unfold cntW
  omega
/-- What Seek meets is not below the text, nor below what stood there. -/
theorem CurFacts.seekKey {d : Nat} {ways : List (List ByteArray)} (hw : Ways d ways) {pre : List (Nat × Nat)} {f t A B : Nat} (F : CurFacts d ways pre f t A B) (x : ByteArray) {r : Nat} (hr : skP (keysM ways pre.length ways.length) f t x = r) :
    f ≤ r ∧ r ≤ t ∧ (∀ j, f ≤ j → j < r → ltB (keyAt ways pre.length (st ways pre.length j)) x = true) ∧ (r < t → ltB (keyAt ways pre.length (st ways pre.length r)) x = false ∧ ltB (keyAt ways pre.length (st ways pre.length r)) (keyAt ways pre.length (st ways pre.length f)) = false) := by
  have hb := wid_mono ways pre.length F.seg.top
  have htop := F.top
  obtain ⟨s1, s2, s3, s4⟩ := skP_spec (ks := keysM ways pre.length ways.length) (f := f) (t := t) x F.le (by rw [keysM_len]; omega)
  rw [hr] at s1 s2 s3 s4
  refine ⟨s1, s2, fun j h1 h2 => s3 j _ h1 h2 (keysM_at ways pre.length j (by omega)), fun hlt => ⟨s4 hlt _ (keysM_at ways pre.length r (by omega)), ?_⟩⟩
  rcases Nat.lt_or_ge f r with h | h
  · have := F.seg.rise hw F.dep F.ge h (by omega)
    cases h5 : ltB (keyAt ways pre.length (st ways pre.length r)) (keyAt ways pre.length (st ways pre.length f)) with
    | false => rfl
    | true => exact absurd (lt_trans this h5) (lt_irr _)
  · obtain rfl : r = f := by omega
    cases h5 : ltB (keyAt ways pre.length (st ways pre.length r)) (keyAt ways pre.length (st ways pre.length r)) with
    | false => rfl
    | true => exact absurd h5 (lt_irr _)
end Go.Proofs.YthjpfplebbnbpaaGreat
