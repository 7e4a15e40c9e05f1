/- The plain law: the document's words are the program's. No conditions. -/
import Derived.Test.YtcphjfggjjonpaaRef06
namespace Go.Proofs.Ytcphjfggjjonpaa
theorem letter_big {r : Int} (h : 255 < r) : letter r = 0 := by
  unfold letter
  rw [if_neg (by omega), if_neg (by omega)]
theorem digit_iff {r : Int} : digit r = true ↔ 48 ≤ r ∧ r ≤ 57 := by
  unfold digit
  simp
/-- The bytes' letters are the runes' letters. -/
theorem dec_law (s : ByteArray) (p : Nat) :
    (letter ((Utf8.decode s p).1 : Nat) = 1 → rsmall s p = (Utf8.decode s p).2 ∧ rgreat s p = 0) ∧
    (letter ((Utf8.decode s p).1 : Nat) = 2 → rgreat s p = (Utf8.decode s p).2 ∧ rsmall s p = 0) ∧
    (letter ((Utf8.decode s p).1 : Nat) = 0 → rsmall s p = 0 ∧ rgreat s p = 0) ∧
    (digit ((Utf8.decode s p).1 : Nat) = true ↔ 48 ≤ bt s p ∧ bt s p ≤ 57) ∧ ((((Utf8.decode s p).1 : Nat) : Int) = 95 ↔ bt s p = 95) ∧
    ((48 ≤ bt s p ∧ bt s p ≤ 57) ∨ bt s p = 95 → (Utf8.decode s p).2 = 1) := by
  have e0 : (s.get! (p + 0)).toNat = bt s p := rfl
  have e1 : (s.get! (p + 1)).toNat = bt s (p + 1) := rfl
  have e2 : (s.get! (p + 2)).toNat = bt s (p + 2) := rfl
  have e3 : (s.get! (p + 3)).toNat = bt s (p + 3) := rfl
  unfold Utf8.decode
  simp only [e0, e1, e2, e3]
  generalize bt s (p + 2) = c2
  generalize bt s (p + 3) = c3
  have hb : bt s p < 256 := (s.get! p).toNat_lt
  rw [digit_iff]
  unfold rsmall rgreat
  generalize bt s (p + 1) = c1
  generalize bt s p = c0 at *
  by_cases h1 : c0 < 128
  · rw [if_pos h1]
    unfold letter
    refine ⟨fun h => ?_, fun h => ?_, fun h => ?_, by omega, by omega, fun _ => rfl⟩
    · rw [if_pos (by (repeat' split at h) <;> omega), if_neg (by (repeat' split at h) <;> omega), if_neg (by omega)]
      exact ⟨rfl, rfl⟩
    · rw [if_pos (by (repeat' split at h) <;> omega), if_neg (by (repeat' split at h) <;> omega), if_neg (by omega)]
      exact ⟨rfl, rfl⟩
    · rw [if_neg (by (repeat' split at h) <;> omega), if_neg (by omega), if_neg (by (repeat' split at h) <;> omega), if_neg (by omega)]
      exact ⟨rfl, rfl⟩
  · rw [if_neg h1]
    -- a rune that is no letter, where no letter's two bytes stand
    have none : ∀ (r n : Nat), 255 < r → ¬ (c0 = 195 ∧ p + 1 < s.size ∧ 128 ≤ c1 ∧ c1 ≤ 191) → (letter (r : Int) = 1 → (if 97 ≤ c0 ∧ c0 ≤ 122 then 1 else if c0 = 195 ∧ p + 1 < s.size ∧ 159 ≤ c1 ∧ c1 ≤ 191 ∧ c1 ≠ 183 then 2 else 0) = n ∧ (if 65 ≤ c0 ∧ c0 ≤ 90 then 1 else if c0 = 195 ∧ p + 1 < s.size ∧ 128 ≤ c1 ∧ c1 ≤ 158 ∧ c1 ≠ 151 then 2 else 0) = 0) ∧
        (letter (r : Int) = 2 → (if 65 ≤ c0 ∧ c0 ≤ 90 then 1 else if c0 = 195 ∧ p + 1 < s.size ∧ 128 ≤ c1 ∧ c1 ≤ 158 ∧ c1 ≠ 151 then 2 else 0) = n ∧ (if 97 ≤ c0 ∧ c0 ≤ 122 then 1 else if c0 = 195 ∧ p + 1 < s.size ∧ 159 ≤ c1 ∧ c1 ≤ 191 ∧ c1 ≠ 183 then 2 else 0) = 0) ∧
        (letter (r : Int) = 0 → (if 97 ≤ c0 ∧ c0 ≤ 122 then 1 else if c0 = 195 ∧ p + 1 < s.size ∧ 159 ≤ c1 ∧ c1 ≤ 191 ∧ c1 ≠ 183 then 2 else 0) = 0 ∧ (if 65 ≤ c0 ∧ c0 ≤ 90 then 1 else if c0 = 195 ∧ p + 1 < s.size ∧ 128 ≤ c1 ∧ c1 ≤ 158 ∧ c1 ≠ 151 then 2 else 0) = 0) ∧
        ((48 ≤ (r : Int) ∧ (r : Int) ≤ 57) ↔ 48 ≤ c0 ∧ c0 ≤ 57) ∧ ((r : Int) = 95 ↔ c0 = 95) ∧ ((48 ≤ c0 ∧ c0 ≤ 57) ∨ c0 = 95 → n = 1) := by
      intro r n hr hno
      rw [letter_big (by omega)]
      refine ⟨fun h => by omega, fun h => by omega, fun _ => ⟨?_, ?_⟩, by omega, by omega, by omega⟩
      · rw [if_neg (by omega), if_neg (by omega)]
      · rw [if_neg (by omega), if_neg (by omega)]
    have none1 : ∀ (r n : Nat), 127 < r → r < 192 → ¬ (c0 = 195 ∧ p + 1 < s.size ∧ 128 ≤ c1 ∧ c1 ≤ 191) → letter (r : Int) = 0 := by
      intro r n h1 h2 _
      unfold letter
      rw [if_neg (by omega), if_neg (by omega)]
    by_cases hc : (c0 / 32 == 6 && (decide (p + 1 < s.size) && c1 / 64 == 2)) = true
    · rw [if_pos hc]
      simp only [Bool.and_eq_true, beq_iff_eq, decide_eq_true_eq] at hc
      obtain ⟨a1, a2, a3⟩ := hc
      by_cases hg : (c0 % 32) * 64 + c1 % 64 ≥ 128
      · rw [if_pos hg]
        by_cases h95 : c0 = 195
        · subst h95
          have hr : 195 % 32 * 64 + c1 % 64 = c1 + 64 := by omega
          simp only [hr]
          unfold letter
          refine ⟨fun h => ?_, fun h => ?_, fun h => ?_, by omega, by omega, by omega⟩
          all_goals
            constructor
            all_goals
              (repeat' split) <;> first | rfl | (exfalso; (repeat' split at h) <;> first | omega | (simp only [true_and] at *; omega))
        · by_cases hbig : 255 < (c0 % 32) * 64 + c1 % 64
          · exact none _ _ hbig (by omega)
          · have hl := none1 ((c0 % 32) * 64 + c1 % 64) 2 (by omega) (by omega) (by omega)
            have hh := none 256 2 (by omega) (by omega)
            rw [hl]
            refine ⟨fun h => by omega, fun h => by omega, fun _ => hh.2.2.1 (letter_big (by omega)), by omega, by omega, by omega⟩
      · rw [if_neg hg]
        exact none _ _ (by decide) (by omega)
    · rw [if_neg hc]
      simp only [Bool.and_eq_true, beq_iff_eq, decide_eq_true_eq] at hc
      have hno : ¬ (c0 = 195 ∧ p + 1 < s.size ∧ 128 ≤ c1 ∧ c1 ≤ 191) := by omega
      split
      · split
        · rename_i h
          simp only [Bool.and_eq_true, decide_eq_true_eq] at h
          exact none _ _ (by omega) hno
        · exact none _ _ (by decide) hno
      · split
        · split
          · rename_i h
            simp only [Bool.and_eq_true, decide_eq_true_eq] at h
            exact none _ _ (by omega) hno
          · exact none _ _ (by decide) hno
        · exact none _ _ (by decide) hno
/-- The document's word from a place on goes as the program's. -/
theorem word_tail (s : ByteArray) (f : Nat) : ∀ (p : Nat) (k : Int), 0 < p → p ≤ s.size → s.size ≤ p + f → wordFrom s f p k = (k, rend s f p) := by
  induction f with
  | zero =>
    intro p k _ h1 h2
    have : p = s.size := by omega
    rw [wordFrom, rend, this]
  | succ f ih =>
    intro p k h0 h1 h2
    rw [wordFrom, rend]
    by_cases hp : p < s.size
    · rw [if_pos hp]
      obtain ⟨d1, d2, d3, d4, d5, d6⟩ := dec_law s p
      have hle := rpart_le hp
      have hdp := decode_pos s p
      have hr : rpart s p = if letter ((Utf8.decode s p).1 : Nat) = 0 ∧ digit ((Utf8.decode s p).1 : Nat) = false ∧ (((Utf8.decode s p).1 : Nat) : Int) ≠ 95 then 0 else (Utf8.decode s p).2 := by
        unfold rpart
        rw [if_neg (by omega)]
        by_cases hd : (48 ≤ bt s p ∧ bt s p ≤ 57) ∨ bt s p = 95
        · rw [if_pos hd, d6 hd, if_neg]
          rintro ⟨_, h4, h5⟩
          rcases hd with hd | hd
          · rw [d4.2 hd] at h4; cases h4
          · exact h5 (d5.2 hd)
        · rw [if_neg hd]
          have h4 : digit ((Utf8.decode s p).1 : Nat) = false := by
            cases hdd : digit ((Utf8.decode s p).1 : Nat) with
            | false => rfl
            | true => exact absurd (.inl (d4.1 hdd)) hd
          have h5 : (((Utf8.decode s p).1 : Nat) : Int) ≠ 95 := fun h => hd (.inr (d5.1 h))
          by_cases l0 : letter ((Utf8.decode s p).1 : Nat) = 0
          · rw [if_pos ⟨l0, h4, h5⟩, (d3 l0).1, (d3 l0).2]
          · rw [if_neg (fun h => l0 h.1)]
            have hl : letter ((Utf8.decode s p).1 : Nat) = 1 ∨ letter ((Utf8.decode s p).1 : Nat) = 2 := by
              revert l0
              unfold letter
              (repeat' split) <;> simp
            rcases hl with hl | hl
            · rw [(d1 hl).1, (d1 hl).2, Nat.add_zero]
            · rw [(d2 hl).1, (d2 hl).2, Nat.zero_add]
      simp only [if_pos h0]
      by_cases hc : letter ((Utf8.decode s p).1 : Nat) = 0 ∧ digit ((Utf8.decode s p).1 : Nat) = false ∧ (((Utf8.decode s p).1 : Nat) : Int) ≠ 95
      · rw [if_pos hc, if_pos (by rw [hr, if_pos hc])]
      · rw [if_neg hc, hr, if_neg hc, if_neg (by omega)]
        rw [hr, if_neg hc] at hle
        exact ih _ k (by omega) hle (by omega)
    · rw [if_neg hp, if_pos (rpart_end (by omega))]
      have : p = s.size := by omega
      rw [this]
theorem rend_le (s : ByteArray) (f : Nat) : ∀ p, p ≤ s.size → rend s f p ≤ s.size := by
  induction f with
  | zero => exact fun p h => h
  | succ f ih =>
    intro p h
    rw [rend]
    split
    · exact h
    · rename_i hn
      refine ih _ (rpart_le ?_)
      apply Nat.lt_of_not_le
      exact fun hh => hn (rpart_end hh)
theorem rWord_law (s : ByteArray) : rWord s = lexWord s := by
  unfold rWord lexWord rword lexword
  by_cases h0 : s.size = 0
  · have hk : rkind s 0 = 0 := by unfold rkind; rw [if_neg (by omega), if_neg (by omega)]
    rw [if_pos hk, h0, wordFrom, h0]
    rfl
  · have hp : 0 < s.size := by omega
    obtain ⟨d1, d2, d3, d4, d5, d6⟩ := dec_law s 0
    have hdp := decode_pos s 0
    have hle := rpart_le hp
    obtain ⟨f, hf⟩ : ∃ f, s.size = f + 1 := ⟨s.size - 1, by omega⟩
    have hl : letter ((Utf8.decode s 0).1 : Nat) = 0 ∨ letter ((Utf8.decode s 0).1 : Nat) = 1 ∨ letter ((Utf8.decode s 0).1 : Nat) = 2 := by
      unfold letter
      (repeat' split) <;> simp
    have hw : wordFrom s s.size 0 0 = if letter ((Utf8.decode s 0).1 : Nat) ≠ 0 then wordFrom s f (Utf8.decode s 0).2 (letter ((Utf8.decode s 0).1 : Nat)) else if digit ((Utf8.decode s 0).1 : Nat) = true then wordFrom s f (Utf8.decode s 0).2 1 else if (((Utf8.decode s 0).1 : Nat) : Int) = 95 then wordFrom s f (Utf8.decode s 0).2 2 else (0, 0) := by
      rw [hf, wordFrom, if_pos hp]
      simp only [Nat.lt_irrefl, if_false, Nat.zero_add]
    have hr : rend s s.size 0 = if rpart s 0 = 0 then 0 else rend s f (rpart s 0) := by
      rw [hf, rend, Nat.zero_add]
    have hd01 : ∀ {k : Int}, digit k = true → letter k = 0 := by
      intro k h
      rw [digit_iff] at h
      unfold letter
      rw [if_neg (by omega), if_neg (by omega)]
    have h95 : ∀ {k : Int}, k = 95 → letter k = 0 := by
      intro k h
      unfold letter
      rw [if_neg (by omega), if_neg (by omega)]
    -- the first rune's kind and length
    have key : ∀ (K : Int), K ≠ 0 → rkind s 0 = K → rpart s 0 = (Utf8.decode s 0).2 → wordFrom s s.size 0 0 = wordFrom s f (Utf8.decode s 0).2 K →
        (if (if rkind s 0 = 0 then ((0 : Int), 0) else (rkind s 0, rend s s.size 0)).2 = s.size then (if rkind s 0 = 0 then ((0 : Int), 0) else (rkind s 0, rend s s.size 0)).1 else 0) = (if (wordFrom s s.size 0 0).2 < s.size then 0 else (wordFrom s s.size 0 0).1) := by
      intro K hK h1 h2 h3
      have ht := word_tail s f (Utf8.decode s 0).2 K (by omega) (by rw [← h2]; omega) (by omega)
      have hrl : rend s f (Utf8.decode s 0).2 ≤ s.size := rend_le s f _ (by rw [← h2]; omega)
      have hr2 : rend s s.size 0 = rend s f (Utf8.decode s 0).2 := by rw [hr, if_neg (show ¬ rpart s 0 = 0 by omega), h2]
      rw [h3, ht, h1, if_neg hK, hr2]
      show (if rend s f (Utf8.decode s 0).2 = s.size then K else 0) = if rend s f (Utf8.decode s 0).2 < s.size then 0 else K
      by_cases he : rend s f (Utf8.decode s 0).2 = s.size
      · rw [if_pos he, if_neg (by omega)]
      · rw [if_neg he, if_pos (by omega)]
    have hpart : ∀ (n : Nat), ¬ ((48 ≤ bt s 0 ∧ bt s 0 ≤ 57) ∨ bt s 0 = 95) → rsmall s 0 + rgreat s 0 = n → rpart s 0 = n := by
      intro n h1 h2
      unfold rpart
      rw [if_neg (by omega), if_neg h1, h2]
    rcases hl with hl | hl | hl
    · obtain ⟨e1, e2⟩ := d3 hl
      by_cases hdg : 48 ≤ bt s 0 ∧ bt s 0 ≤ 57
      · refine key 1 (by decide) ?_ ?_ ?_
        · unfold rkind
          rw [if_neg (by omega), if_pos ⟨hp, .inr hdg⟩]
        · rw [d6 (.inl hdg)]
          unfold rpart
          rw [if_neg (by omega), if_pos (.inl hdg)]
        · rw [hw, if_neg (show ¬ (letter ((Utf8.decode s 0).1 : Nat) ≠ 0) from fun h => h hl), if_pos (d4.2 hdg)]
      · by_cases h9 : bt s 0 = 95
        · refine key 2 (by decide) ?_ ?_ ?_
          · unfold rkind
            rw [if_pos ⟨hp, .inr h9⟩]
          · rw [d6 (.inr h9)]
            unfold rpart
            rw [if_neg (by omega), if_pos (.inr h9)]
          · rw [hw, if_neg (show ¬ (letter ((Utf8.decode s 0).1 : Nat) ≠ 0) from fun h => h hl), if_neg (show ¬ digit ((Utf8.decode s 0).1 : Nat) = true from fun h => hdg (d4.1 h)), if_pos (d5.2 h9)]
        · have hk : rkind s 0 = 0 := by
            unfold rkind
            rw [if_neg (by omega), if_neg (by omega)]
          have hw0 : wordFrom s s.size 0 0 = (0, 0) := by rw [hw, if_neg (show ¬ (letter ((Utf8.decode s 0).1 : Nat) ≠ 0) from fun h => h hl), if_neg (show ¬ digit ((Utf8.decode s 0).1 : Nat) = true from fun h => hdg (d4.1 h)), if_neg (show ¬ (((Utf8.decode s 0).1 : Nat) : Int) = 95 from fun h => h9 (d5.1 h))]
          rw [hw0, if_pos hk]
          show (if 0 = s.size then (0 : Int) else 0) = if 0 < s.size then 0 else 0
          rw [if_pos hp]
          split <;> rfl
    · obtain ⟨e1, e2⟩ := d1 hl
      have hnd : ¬ ((48 ≤ bt s 0 ∧ bt s 0 ≤ 57) ∨ bt s 0 = 95) := by
        rintro (h | h)
        · have := hd01 (d4.2 h); omega
        · have := h95 (d5.2 h); omega
      refine key 1 (by decide) ?_ (hpart _ hnd (by omega)) ?_
      · unfold rkind
        rw [if_neg (by omega), if_pos ⟨hp, .inl (by omega)⟩]
      · rw [hw, if_pos (show letter ((Utf8.decode s 0).1 : Nat) ≠ 0 by omega), hl]
    · obtain ⟨e1, e2⟩ := d2 hl
      have hnd : ¬ ((48 ≤ bt s 0 ∧ bt s 0 ≤ 57) ∨ bt s 0 = 95) := by
        rintro (h | h)
        · have := hd01 (d4.2 h); omega
        · have := h95 (d5.2 h); omega
      refine key 2 (by decide) ?_ (hpart _ hnd (by omega)) ?_
      · unfold rkind
        rw [if_pos ⟨hp, .inl (by omega)⟩]
      · rw [hw, if_pos (show letter ((Utf8.decode s 0).1 : Nat) ≠ 0 by omega), hl]
end Go.Proofs.Ytcphjfggjjonpaa
