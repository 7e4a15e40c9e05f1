/- Tries, a plain law: the ways that begin alike lie side by side; a text's place among what follows. -/
import Derived.Test.YthjpfplebbnbpaaGreatSeek
namespace Go.Proofs.YthjpfplebbnbpaaGreat
/-- Ways A to B begin alike in their first i constants; so no other way does that lies beside them. -/
structure Seg (ways : List (List ByteArray)) (i A B : Nat) : Prop where
  le : A ≤ B
  top : B ≤ ways.length
  sa : Stop ways i A
  sb : Stop ways i B
  same : ∀ m, A ≤ m → m < B → (wayAt ways m).take i = (wayAt ways A).take i
theorem seg_root (ways : List (List ByteArray)) : Seg ways 0 0 ways.length := ⟨Nat.zero_le _, Nat.le_refl _, by
    rcases Nat.eq_zero_or_pos ways.length with h | h
    · exact .inl h.symm
    · exact .inr ⟨h, rfl⟩, .inl rfl, fun m _ _ => rfl⟩
theorem seg_below (ways : List (List ByteArray)) (i j : Nat) (hj : j < wid ways i ways.length) : Seg ways (i + 1) (st ways i j) (st ways i (j + 1)) :=
  ⟨st_mono ways i (Nat.le_succ j) hj, st_le ways i _, (st_stop ways i j).up (Nat.le_succ i), (st_stop ways i (j + 1)).up (Nat.le_succ i), fun m h1 h2 => (in_node ways i j m hj h1 h2).2⟩
theorem Seg.place {ways : List (List ByteArray)} {i A B : Nat} (h : Seg ways i A B) {p : Nat} (h1 : wid ways i A ≤ p) (h2 : p < wid ways i B) : A ≤ st ways i p ∧ st ways i p < B ∧ p < wid ways i ways.length := by
  have hb := wid_mono ways i h.top
  have e1 := st_wid ways i h.sa
  have e2 := st_wid ways i h.sb
  have m1 := st_mono ways i h1 (by omega)
  have m2 := st_lt ways i h2 hb
  rw [e1] at m1
  rw [e2] at m2
  exact ⟨m1, m2, by omega⟩
theorem nd_st (ways : List (List ByteArray)) (i p : Nat) (h : p < wid ways i ways.length) : nd ways i (st ways i p) = p := by
  have := st_spec ways i p h
  have h2 := wid_succ ways i (st ways i p)
  rw [if_pos this.2.1, this.2.2] at h2
  unfold nd
  omega
theorem Seg.ndIn {ways : List (List ByteArray)} {i A B : Nat} (h : Seg ways i A B) {m : Nat} (h1 : A ≤ m) (h2 : m < B) : wid ways i A ≤ nd ways i m ∧ nd ways i m < wid ways i B := by
  have hm : m < ways.length := Nat.lt_of_lt_of_le h2 h.top
  obtain ⟨a1, a2, a3, a4⟩ := nd_spec ways i m hm
  have b2 := wid_mono ways i (show m + 1 ≤ B by omega)
  have b1 : wid ways i A + 1 ≤ wid ways i (m + 1) := by
    have := wid_mono ways i (show A + 1 ≤ m + 1 by omega)
    have h3 := wid_succ ways i A
    rcases h.sa with e | ⟨_, e⟩
    · omega
    · rw [if_pos e] at h3
      omega
  omega
theorem take_key {d : Nat} {ways : List (List ByteArray)} (h : Ways d ways) {i m : Nat} (hm : m < ways.length) (hi : i < d) : (wayAt ways m).take (i + 1) = (wayAt ways m).take i ++ [keyAt ways i m] := by
  have hl := (h.at hm).2
  obtain ⟨x, hx⟩ : ∃ x, (wayAt ways m)[i]? = some x := ⟨_, List.getElem?_eq_getElem (by omega)⟩
  rw [take_at hx]
  unfold keyAt
  rw [hx]
  rfl
theorem key_nd {d : Nat} {ways : List (List ByteArray)} (h : Ways d ways) {i m : Nat} (hm : m < ways.length) (hi : i < d) : keyAt ways i (st ways i (nd ways i m)) = keyAt ways i m := by
  obtain ⟨a1, a2, a3, a4⟩ := nd_spec ways i m hm
  have e := (in_node ways i _ m a2 a3 a4).2
  have hs := (st_spec ways i _ a2).1
  rw [take_key h hm hi, take_key h hs hi] at e
  have := (List.append_inj' e rfl).2
  simpa using this.symm
theorem Seg.rise {d : Nat} {ways : List (List ByteArray)} (hw : Ways d ways) {i A B : Nat} (h : Seg ways i A B) (hi : i < d) {p q : Nat} (h1 : wid ways i A ≤ p) (hpq : p < q) (h2 : q < wid ways i B) : ltB (keyAt ways i (st ways i p)) (keyAt ways i (st ways i q)) = true := by
  obtain ⟨a1, a2, a3⟩ := h.place h1 (by omega : p < wid ways i B)
  obtain ⟨b1, b2, b3⟩ := h.place (by omega : wid ways i A ≤ q) h2
  have hlt := st_lt ways i hpq (by omega)
  have hq := Nat.lt_of_lt_of_le b2 h.top
  refine hw.key_lt hi hlt hq ((h.same _ a1 a2).trans (h.same _ b1 b2).symm) (fun e => ?_)
  have := (hw.nd_iff (by omega) hq).1 e
  rw [nd_st ways i p a3, nd_st ways i q b3] at this
  omega
/-- What seek asks of the keys. -/
theorem Seg.cut {d : Nat} {ways : List (List ByteArray)} (hw : Ways d ways) {i A B : Nat} (h : Seg ways i A B) (hi : i < d) (x : ByteArray) {f : Nat} (hf : wid ways i A ≤ f) : ∀ p q a b, f ≤ p → p ≤ q → q < wid ways i B → (keysM ways i ways.length)[p]? = some a → (keysM ways i ways.length)[q]? = some b → ltB b x = true → ltB a x = true := by
  intro p q a b hp hpq hq ha hb hlt
  rcases Nat.lt_or_ge p q with h1 | h1
  · have w1 := wid_mono ways i h.top
    rw [keysM_at ways i p (by omega)] at ha
    rw [keysM_at ways i q (by omega)] at hb
    cases ha
    cases hb
    exact lt_trans (h.rise hw hi (by omega) h1 hq) hlt
  · obtain rfl : p = q := by omega
    rw [ha] at hb
    cases hb
    exact hlt
/-- A text's place in the span of a beginning: there, or no way goes on so. -/
theorem Seg.seek {d : Nat} {ways : List (List ByteArray)} (hw : Ways d ways) {i A B : Nat} (h : Seg ways i A B) (hi : i < d) (x : ByteArray) : wid ways i A ≤ skP (keysM ways i ways.length) (wid ways i A) (wid ways i B) x ∧ skP (keysM ways i ways.length) (wid ways i A) (wid ways i B) x ≤ wid ways i B ∧ ∀ m, A ≤ m → m < B → keyAt ways i m = x → skP (keysM ways i ways.length) (wid ways i A) (wid ways i B) x = nd ways i m := by
  have hb := wid_mono ways i h.top
  obtain ⟨s1, s2, s3, s4⟩ := skP_spec (ks := keysM ways i ways.length) x (wid_mono ways i h.le) (by rw [keysM_len]; exact hb)
  refine ⟨s1, s2, fun m h1 h2 hx => ?_⟩
  have hm := Nat.lt_of_lt_of_le h2 h.top
  obtain ⟨n1, n2⟩ := h.ndIn h1 h2
  have kx := key_nd hw hm hi
  rw [hx] at kx
  rcases Nat.lt_trichotomy (skP (keysM ways i ways.length) (wid ways i A) (wid ways i B) x) (nd ways i m) with hc | hc | hc
  · have g := s4 (by omega) _ (keysM_at ways i _ (by omega))
    have r := h.rise hw hi s1 hc n2
    rw [kx, g] at r
    cases r
  · exact hc
  · have g := s3 (nd ways i m) _ n1 hc (keysM_at ways i _ (by omega))
    rw [kx] at g
    exact absurd g (lt_irr x)
end Go.Proofs.YthjpfplebbnbpaaGreat
