/- The order of rows: a strict total order. No code of the program. -/
import Derived.Test.YthjpfplebbnbpaaGreatRowV
namespace Go.Proofs.YthjpfplebbnbpaaGreat
open Go.ChangeShapes Go.WideShapes Go.ChangeAt Go.RowKit
theorem bl_cons (a b : UInt8) (x y : List UInt8) : Op.bytesLess (a :: x) (b :: y) = true ↔ a < b ∨ a = b ∧ Op.bytesLess x y = true := by
  simp [Op.bytesLess]
theorem bl_irr (x : List UInt8) : ¬ Op.bytesLess x x = true := by
  induction x with
  | nil => simp [Op.bytesLess]
  | cons a x ih =>
    rw [bl_cons]
    rintro (h | ⟨_, h⟩)
    · exact absurd h (by simp)
    · exact ih h
theorem bl_tri : ∀ (x y : List UInt8), Op.bytesLess x y = true ∨ x = y ∨ Op.bytesLess y x = true
  | [], [] => .inr (.inl rfl)
  | [], _ :: _ => .inl rfl
  | _ :: _, [] => .inr (.inr rfl)
  | a :: x, b :: y => by
    rcases Nat.lt_trichotomy a.toNat b.toNat with h | h | h
    · exact .inl ((bl_cons ..).2 (.inl (UInt8.lt_iff_toNat_lt.2 h)))
    · obtain rfl : a = b := UInt8.toNat_inj.1 h
      rcases bl_tri x y with h | h | h
      · exact .inl ((bl_cons ..).2 (.inr ⟨rfl, h⟩))
      · exact .inr (.inl (by rw [h]))
      · exact .inr (.inr ((bl_cons ..).2 (.inr ⟨rfl, h⟩)))
    · exact .inr (.inr ((bl_cons ..).2 (.inl (UInt8.lt_iff_toNat_lt.2 h))))
theorem bl_trans : ∀ (x y z : List UInt8), Op.bytesLess x y = true → Op.bytesLess y z = true → Op.bytesLess x z = true
  | _, _, [], _, h => by
    rename_i y _
    cases y <;> simp [Op.bytesLess] at h
  | [], _, _ :: _, _, _ => rfl
  | _ :: _, [], _ :: _, h, _ => by simp [Op.bytesLess] at h
  | a :: x, b :: y, c :: z, h, k => by
    rw [bl_cons] at h k ⊢
    rcases h with h | ⟨rfl, h⟩
    · rcases k with k | ⟨rfl, k⟩
      · left
        rw [UInt8.lt_iff_toNat_lt] at h k ⊢
        omega
      · exact .inl h
    · rcases k with k | ⟨rfl, k⟩
      · exact .inl k
      · exact .inr ⟨rfl, bl_trans x y z h k⟩
theorem toList_inj {a b : ByteArray} (h : a.toList = b.toList) : a = b := by
  have h1 := (toList_eq_iff a b.toList).1 h
  have h2 := (toList_eq_iff b b.toList).1 rfl
  rw [h1, ← h2]
theorem lt_irr (a : ByteArray) : ¬ ltB a a = true := bl_irr _
theorem lt_trans {a b c : ByteArray} (h : ltB a b = true) (k : ltB b c = true) : ltB a c = true := bl_trans _ _ _ h k
theorem lt_tri (a b : ByteArray) : ltB a b = true ∨ a = b ∨ ltB b a = true := by
  rcases bl_tri a.toList b.toList with h | h | h
  · exact .inl h
  · exact .inr (.inl (toList_inj h))
  · exact .inr (.inr h)
theorem cmpB_neg (a b : ByteArray) : cmpB a b < 0 ↔ ltB a b = true := by
  unfold cmpB
  by_cases h : ltB a b = true
  · simp [h]
  · by_cases h2 : a = b
    · simp [h2, lt_irr]
    · simp [h, h2]
theorem cmpB_zero (a b : ByteArray) : cmpB a b = 0 ↔ a = b := by
  unfold cmpB
  split
  · rename_i h
    constructor
    · intro h0; cases h0
    · rintro rfl; exact absurd h (lt_irr a)
  · split <;> simp [*]
theorem cmpB_swap (a b : ByteArray) : cmpB b a = - cmpB a b := by
  rcases lt_tri a b with h | rfl | h
  · have h2 : ¬ ltB b a = true := fun k => lt_irr a (lt_trans h k)
    have h3 : ¬ b = a := fun e => by subst e; exact lt_irr _ h
    simp [cmpB, h, h2, h3]
  · simp [cmpB, lt_irr]
  · have h2 : ¬ ltB a b = true := fun k => lt_irr a (lt_trans k h)
    have h3 : ¬ a = b := fun e => by subst e; exact lt_irr _ h
    simp [cmpB, h, h2, h3]
theorem cmpRow_zero : ∀ (x y : List ByteArray), cmpRow x y = 0 ↔ x = y
  | [], [] => by simp [cmpRow]
  | [], _ :: _ => by simp [cmpRow]
  | _ :: _, [] => by simp [cmpRow]
  | a :: x, b :: y => by
    rw [cmpRow]
    by_cases h : cmpB a b = 0
    · rw [if_neg (fun k => k h), cmpRow_zero x y]
      have := (cmpB_zero a b).1 h
      simp [this]
    · rw [if_pos h]
      constructor
      · intro k; exact absurd k h
      · intro k
        rw [List.cons.injEq] at k
        exact absurd ((cmpB_zero a b).2 k.1) h
theorem cmpRow_swap : ∀ (x y : List ByteArray), cmpRow y x = - cmpRow x y
  | [], [] => rfl
  | [], _ :: _ => rfl
  | _ :: _, [] => rfl
  | a :: x, b :: y => by
    rw [cmpRow, cmpRow, cmpB_swap a b]
    by_cases h : cmpB a b = 0
    · rw [if_neg (by omega), if_neg (fun k => k h), cmpRow_swap x y]
    · rw [if_pos (by omega), if_pos h]
theorem cmpRow_trans : ∀ (x y z : List ByteArray), cmpRow x y < 0 → cmpRow y z < 0 → cmpRow x z < 0
  | [], [], _, h, _ => by simp [cmpRow] at h
  | [], _ :: _, [], _, k => by simp [cmpRow] at k
  | [], _ :: _, _ :: _, _, _ => by simp [cmpRow]
  | _ :: _, [], _, h, _ => by simp [cmpRow] at h
  | _ :: _, _ :: _, [], _, k => by simp [cmpRow] at k
  | a :: x, b :: y, c :: z, h, k => by
    rw [cmpRow] at h k ⊢
    by_cases h1 : cmpB a b = 0
    · have e1 := (cmpB_zero a b).1 h1
      subst e1
      rw [if_neg (fun n => n h1)] at h
      by_cases k1 : cmpB a c = 0
      · rw [if_neg (fun n => n k1)] at k ⊢
        exact cmpRow_trans x y z h k
      · rw [if_pos k1] at k ⊢
        exact k
    · rw [if_pos h1] at h
      by_cases k1 : cmpB b c = 0
      · have e1 := (cmpB_zero b c).1 k1
        subst e1
        rw [if_pos h1]
        exact h
      · rw [if_pos k1] at k
        have h2 := lt_trans ((cmpB_neg a b).1 h) ((cmpB_neg b c).1 k)
        have h3 := (cmpB_neg a c).2 h2
        rw [if_pos (by omega)]
        exact h3
/-- Rows, rising, each once. -/
def Rising (rs : List (List ByteArray)) : Prop := rs.Pairwise fun a b => cmpRow a b < 0
theorem Rising.cut {rs : List (List ByteArray)} (h : Rising rs) (t : List ByteArray) : Cut rs t := by
  intro i j x y hij hx hy hlt
  by_cases he : i = j
  · subst he
    rw [hx] at hy
    cases hy
    exact hlt
  · obtain ⟨hi, rfl⟩ := List.getElem?_eq_some_iff.1 hx
    obtain ⟨hj, rfl⟩ := List.getElem?_eq_some_iff.1 hy
    exact cmpRow_trans _ _ _ (List.pairwise_iff_getElem.1 h i j hi hj (by omega)) hlt
theorem takeWhile_mem {α : Type} {p : α → Bool} {l : List α} {x : α} (h : x ∈ l.takeWhile p) : p x = true := by
  induction l with
  | nil => simp at h
  | cons a l ih =>
    rw [List.takeWhile_cons] at h
    split at h
    · rename_i ha
      rcases List.mem_cons.1 h with rfl | h
      · exact ha
      · exact ih h
    · cases h
theorem low_spec {rs : List (List ByteArray)} (h : Rising rs) (t : List ByteArray) : lowB rs t ≤ rs.length ∧ (∀ k x, k < lowB rs t → rs[k]? = some x → cmpRow x t < 0) ∧ ∀ k x, lowB rs t ≤ k → rs[k]? = some x → ¬ cmpRow x t < 0 := by
  have hl : lowB rs t ≤ rs.length := (List.takeWhile_prefix _).length_le
  refine ⟨hl, fun k x hk hx => ?_, fun k x hk hx hn => ?_⟩
  · have h1 : (rs.takeWhile fun r => decide (cmpRow r t < 0))[k]? = some x := by
      obtain ⟨l, e⟩ := List.takeWhile_prefix (fun r => decide (cmpRow r t < 0)) (l := rs)
      rw [← e, List.getElem?_append_left hk] at hx
      exact hx
    have h2 := takeWhile_mem (List.mem_of_getElem? h1)
    simpa using h2
  · have hk' := (List.getElem?_eq_some_iff.1 hx).1
    obtain ⟨y, hy⟩ : ∃ y, rs[lowB rs t]? = some y := ⟨_, List.getElem?_eq_getElem (by omega)⟩
    have h3 := h.cut t _ _ _ _ hk hy hx hn
    have h4 := List.head?_dropWhile_not (fun r => decide (cmpRow r t < 0)) rs
    have e : rs.drop (lowB rs t) = rs.dropWhile fun r => decide (cmpRow r t < 0) := by
      have h5 := List.takeWhile_append_dropWhile (p := fun r => decide (cmpRow r t < 0)) (l := rs)
      conv => lhs; arg 2; rw [← h5]
      exact List.drop_left
    rw [← e, List.head?_drop, hy] at h4
    simp at h4
    omega
theorem found_iff {rs : List (List ByteArray)} (h : Rising rs) (t : List ByteArray) : foundB rs t = true ↔ t ∈ rs := by
  obtain ⟨h1, h2, h3⟩ := low_spec h t
  unfold foundB
  constructor
  · intro hf
    cases hx : rs[lowB rs t]? with
    | none => rw [hx] at hf; cases hf
    | some r =>
      rw [hx] at hf
      have := (cmpRow_zero r t).1 (by simpa using hf)
      rw [← this]
      exact List.mem_of_getElem? hx
  · intro hm
    obtain ⟨k, hk⟩ := List.mem_iff_getElem?.1 hm
    have hkl : ¬ k < lowB rs t := fun hlt => by
      have h5 := h2 k t hlt hk
      rw [(cmpRow_zero t t).2 rfl] at h5
      omega
    obtain ⟨y, hy⟩ : ∃ y, rs[lowB rs t]? = some y := ⟨_, List.getElem?_eq_getElem (by have := (List.getElem?_eq_some_iff.1 hk).1; omega)⟩
    rw [hy]
    have h6 := h3 _ y (Nat.le_refl _) hy
    by_cases he : lowB rs t = k
    · rw [he, hk] at hy
      cases hy
      simp [(cmpRow_zero t t).2 rfl]
    · exfalso
      obtain ⟨hi, rfl⟩ := List.getElem?_eq_some_iff.1 hy
      obtain ⟨hj, e⟩ := List.getElem?_eq_some_iff.1 hk
      have h7 := List.pairwise_iff_getElem.1 h _ k hi hj (by omega)
      rw [e] at h7
      exact h6 h7
/-- The rows with one more. -/
def putRow (rs : List (List ByteArray)) (t : List ByteArray) : List (List ByteArray) := if foundB rs t = true then rs else rs.take (lowB rs t) ++ t :: rs.drop (lowB rs t)
theorem putRow_rising {rs : List (List ByteArray)} (h : Rising rs) (t : List ByteArray) : Rising (putRow rs t) := by
  unfold putRow
  split
  · exact h
  · rename_i hf
    obtain ⟨h1, h2, h3⟩ := low_spec h t
    have hd : ∀ y ∈ rs.drop (lowB rs t), cmpRow t y < 0 := fun y hy => by
      obtain ⟨k, hk⟩ := List.mem_iff_getElem?.1 hy
      rw [List.getElem?_drop] at hk
      have h4 := h3 _ y (Nat.le_add_right _ _) hk
      have h5 : cmpRow y t ≠ 0 := fun h0 => hf ((found_iff h t).2 (by rw [← (cmpRow_zero y t).1 h0]; exact List.mem_of_getElem? hk))
      have h6 := cmpRow_swap y t
      omega
    have ht : ∀ x ∈ rs.take (lowB rs t), cmpRow x t < 0 := fun x hx => by
      obtain ⟨k, hk⟩ := List.mem_iff_getElem?.1 hx
      have hkl := (List.getElem?_eq_some_iff.1 hk).1
      rw [List.length_take] at hkl
      rw [List.getElem?_take] at hk
      split at hk
      · exact h2 k x (by omega) hk
      · cases hk
    refine List.pairwise_append.2 ⟨h.sublist (List.take_sublist _ _), List.pairwise_cons.2 ⟨hd, h.sublist (List.drop_sublist _ _)⟩, fun x hx y hy => ?_⟩
    rcases List.mem_cons.1 hy with rfl | hy
    · exact ht x hx
    · exact cmpRow_trans _ _ _ (ht x hx) (hd y hy)
theorem putRow_mem {rs : List (List ByteArray)} (h : Rising rs) (t x : List ByteArray) : x ∈ putRow rs t ↔ x = t ∨ x ∈ rs := by
  unfold putRow
  split
  · rename_i hf
    have := (found_iff h t).1 hf
    constructor
    · exact .inr
    · rintro (rfl | hx)
      · exact this
      · exact hx
  · have e : rs = rs.take (lowB rs t) ++ rs.drop (lowB rs t) := (List.take_append_drop _ _).symm
    have : x ∈ rs ↔ x ∈ rs.take (lowB rs t) ∨ x ∈ rs.drop (lowB rs t) := by
      conv => lhs; rw [e]
      exact List.mem_append
    rw [List.mem_append, List.mem_cons, this]
    constructor
    · rintro (h1 | h1 | h1)
      · exact .inr (.inl h1)
      · exact .inl h1
      · exact .inr (.inr h1)
    · rintro (h1 | h1 | h1)
      · exact .inr (.inl h1)
      · exact .inl h1
      · exact .inr (.inr h1)
end Go.Proofs.YthjpfplebbnbpaaGreat
