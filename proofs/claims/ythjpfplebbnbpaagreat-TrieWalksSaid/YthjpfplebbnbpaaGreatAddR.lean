/- The walk of Rows.Add. -/
import Derived.Test.YthjpfplebbnbpaaGreatAdd
namespace Go.Proofs.YthjpfplebbnbpaaGreat
open Go.ChangeShapes Go.WideShapes Go.ChangeAt Go.RowKit
/-- The rows with one more, if it may be one. -/
def addRow (ar : Nat) (rs : List (List ByteArray)) (t : List ByteArray) : List (List ByteArray) := if t.length = ar ∧ mayRow t = true then putRow rs t else rs
theorem addRow_rising {ar : Nat} {rs : List (List ByteArray)} (h : Rising rs) (t : List ByteArray) : Rising (addRow ar rs t) := by
  unfold addRow
  split
  · exact putRow_rising h t
  · exact h
theorem putRow_len (rs : List (List ByteArray)) (t : List ByteArray) : (putRow rs t).length ≤ rs.length + 1 := by
  unfold putRow
  split
  · omega
  · simp
    omega
theorem addRow_len (ar : Nat) (rs : List (List ByteArray)) (t : List ByteArray) : (addRow ar rs t).length ≤ rs.length + 1 := by
  unfold addRow
  split
  · exact putRow_len rs t
  · omega
def AddRPost (lo pb ar : Nat) (rs : List (List ByteArray)) (t : List ByteArray) (w : World) (e : Ending) (w' : World) : Prop := (∃ b k, e = .returned (.tuple #[.bool b, .int .i64 k])) ∧ RowsV w' lo pb ar (addRow ar rs t) ∧ ButS (fun b => b = pb ∨ lo ≤ b) w w'
set_option maxRecDepth 100000 in
theorem c_addR (lo pb ar : Nat) (rs : List (List ByteArray)) (t : List ByteArray) (a : Option Addr) (n c : Nat) (w : World) (h : RowsV w lo pb ar rs) (hr : Rising rs) (ht : StrsAt w a n t) (hnil : a = none → n = 0 ∧ c = 0) (har : ar ≤ 64) (hn : rs.length < 65536) (hlo : lo ≤ w.heap.size) :
    Calls Tryz.prog 52 #[.pointer (some ⟨pb, 0, none⟩), .slice a n c] w (AddRPost lo pb ar rs t w) := by
  have H := Lib.hid h
  have HT := Lib.hid ht
  have HN := Lib.hid hnil
  have HR := Lib.hid hr
  have HL := Lib.hid hlo
  have c2 := h.c2
  have hlen : t.length = n := ht.2.1
  clear h ht hnil hr hlo
  by_cases hne : n = ar
  · subst hne
    obtain ⟨b, hb⟩ : ∃ b, mayRow t = b := ⟨_, rfl⟩
    have HB := Lib.hid hb
    cases b with
    | false =>
      have HQ : Hid (addRow n rs t = rs) := by show _ = _; unfold addRow; rw [hb, if_neg (by simp)]
      clear hb
      go_enter Tryz.func52, Tryz.ntmps52
      go_wp2_with (go_at_call 67; (with_reducible refine (c_tTexts t _ _ _ _ HT.out).mono ?_); rw [HB.out]; rintro e w1 ⟨rfl, hw1⟩; obtain rfl := hw1.symm)
      go_ret2
      exact ⟨⟨_, _, rfl⟩, by rw [HQ.out]; exact H.out, ButS.refl _ _⟩
    | true =>
      have HQ : Hid (addRow n rs t = putRow rs t) := by show _ = _; unfold addRow; rw [hb, if_pos ⟨hlen, rfl⟩]
      have hge : decide ((65536 : Int) ≤ (rs.length : Int)) = false := by simp; omega
      have HLEN := Lib.hid hlen
      clear hb hlen
      have CL := Lib.hid (c_cloneS t a n c w HT.out (by omega) HN.out)
      have AD : Hid (∀ a' c' w1, w1.ownsRow w.heap.size 9 1 (.slice a' n c') n (t.map Value.string) → Ext w w1 → Calls Tryz.prog 69 #[.pointer (some ⟨pb, 0, none⟩), .slice a' n c'] w1 (AddPost lo pb n rs t w1)) := by
        intro a' c' w1 ho he
        have := HLEN.out
        subst this
        exact c_addS lo pb _ rs t a' c' w1 (H.out.ext he) HR.out (own_base ho HL.out) (by omega) (Nat.le_trans HL.out he.size)
      clear hn har
      go_enter Tryz.func52, Tryz.ntmps52
      go_wp2_with (first
        | (go_at_call 67; (with_reducible refine (c_tTexts t _ _ _ _ HT.out).mono ?_); rw [HB.out]; rintro e w1 ⟨rfl, hw1⟩; obtain rfl := hw1.symm)
        | (go_at_call 24; (with_reducible refine (c_lenR lo pb n rs _ H.out).mono ?_); rintro e w1 ⟨rfl, hw1⟩; obtain rfl := hw1.symm)
        | (go_at_call 58; (with_reducible refine (c_set lo pb n rs _ H.out).mono ?_); rintro e w1 ⟨rfl, hw1⟩; obtain rfl := hw1.symm)
        | (go_at_call 47; (with_reducible refine CL.out.mono ?_); rintro e w7 ⟨a7, c7, rfl, r7, _, e7⟩)
        | (go_at_call 69; (with_reducible refine (AD.out _ _ _ r7 e7).mono ?_); rintro e w8 ⟨rfl, q8, b8⟩))
      go_ret2
      exact ⟨⟨_, _, rfl⟩, by rw [HQ.out]; exact q8, ((ButS.refl _ _).ext e7).trans b8⟩
  · have hne2 : ¬ ((n : Int) = (ar : Int)) := by omega
    have HQ : Hid (addRow ar rs t = rs) := by show _ = _; unfold addRow; rw [if_neg (by rw [hlen]; rintro ⟨h, _⟩; exact hne h)]
    go_enter Tryz.func52, Tryz.ntmps52
    go_wp2
    go_ret2
    exact ⟨⟨_, _, rfl⟩, by rw [HQ.out]; exact H.out, ButS.refl _ _⟩
end Go.Proofs.YthjpfplebbnbpaaGreat
