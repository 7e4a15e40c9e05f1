/- The walks of lex.letter, lex.digit, lex.word, lex.Word, syntax.mayLong, syntax.mayWord: each comes to its plain function, whatever the world. -/
import Derived.Test.YtcphjfggjjonpaaRows
import Derived.Test.YtcphjfggjjonpaaMem
import Derived.Test.YtcphjfggjjonpaaSpec
namespace Go.Proofs.Ytcphjfggjjonpaa
open Go.ChangeShapes Go.WideShapes Go.ChangeAt Go.RowKit
theorem c_letter (r : Int) (w : World) : Calls Try.prog 76 #[.int .i32 r] w fun e w' => e = .returned (.int .i64 (letter r)) ∧ w = w' := by
  go_enter Try.func76, Try.ntmps76
  go_wp2
  all_goals
    go_ret
    refine ⟨ret_int ?_, rfl⟩
    unfold letter
    simp only [bne_iff_ne, bne_eq_false_iff_eq, ne_eq] at *
    first | rfl | ((repeat' split) <;> first | rfl | omega)
theorem c_digit (r : Int) (w : World) : Calls Try.prog 77 #[.int .i32 r] w fun e w' => e = .returned (.bool (digit r)) ∧ w = w' := by
  go_enter Try.func77, Try.ntmps77
  go_wp2
  all_goals
    go_ret
    refine ⟨ret_bool ?_, rfl⟩
    unfold digit
    first | (simp; omega) | (simp; done)
def LexInv (s : ByteArray) (w : World) (v : Value) (wr : World) : Prop := ∃ (pos f : Nat) (k : Int), wr = w.iter s pos ∧ v = .int .i64 k ∧ s.size ≤ pos + f ∧ lexword s = wordFrom s f pos k
theorem iter_ext (w : World) (s : ByteArray) (p : Nat) : Ext w (w.iter s p) := (Below.refl _ _).alloc (Nat.le_refl _) _
theorem decode_pos (s : ByteArray) (p : Nat) : 1 ≤ (Utf8.decode s p).2 := by
  simp only [Utf8.decode]
  repeat' split
  all_goals simp
theorem c_word (s : ByteArray) (w : World) (hs : s.size ≤ maxLen) : Calls Try.prog 72 #[.string s] w fun e w' => e = .returned (.tuple #[.int .i64 (lexword s).1, .int .i64 (lexword s).2]) ∧ Ext w w' := by
  unfold maxLen at hs
  go_enter Try.func72, Try.ntmps72
  go_wp2
  go_loopw [4] (fun v wr => LexInv s w v wr) (fun _ wr => s.size + 4 - wr.iterPos w.heap.size)
  case atStart => exact ⟨0, s.size, 0, rfl, rfl, by omega, rfl⟩
  case round =>
    obtain ⟨pos, f, k, rfl, rfl, hf, hq⟩ := hrel
    have HQ := Lib.hid hq
    clear hq
    by_cases hlt : pos < s.size
    · have hn := fun ty => run_next_any (P := Try.prog) w s pos ty hlt
      have hpn : pos < pos + (Utf8.decode s pos).2 := by have := decode_pos s pos; omega
      obtain ⟨f, rfl⟩ : ∃ g, f = g + 1 := ⟨f - 1, by omega⟩
      have hst : wordFrom s (f + 1) pos k = if 0 < pos then (if letter ((Utf8.decode s pos).1 : Nat) = 0 ∧ digit ((Utf8.decode s pos).1 : Nat) = false ∧ (((Utf8.decode s pos).1 : Nat) : Int) ≠ 95 then (k, pos) else wordFrom s f (pos + (Utf8.decode s pos).2) k) else if letter ((Utf8.decode s pos).1 : Nat) ≠ 0 then wordFrom s f (pos + (Utf8.decode s pos).2) (letter ((Utf8.decode s pos).1 : Nat)) else if digit ((Utf8.decode s pos).1 : Nat) = true then wordFrom s f (pos + (Utf8.decode s pos).2) 1 else if (((Utf8.decode s pos).1 : Nat) : Int) = 95 then wordFrom s f (pos + (Utf8.decode s pos).2) 2 else (0, 0) := by
        rw [wordFrom, if_pos hlt]
      generalize ((Utf8.decode s pos).1 : Int) = r at *
      generalize pos + (Utf8.decode s pos).2 = n at *
      have HS := Lib.hid hst
      clear hst
      go_wp2_with (first | (go_at_call 76; (with_reducible refine (c_letter _ _).mono ?_); rintro e w' ⟨rfl, rfl⟩) | (go_at_call 77; (with_reducible refine (c_digit _ _).mono ?_); rintro e w' ⟨rfl, rfl⟩))
      all_goals first | exact ⟨⟨n, f, _, rfl, rfl, by omega, by rw [HQ.out, HS.out]; simp_all⟩, by simp; omega⟩ | (go_ret2; refine ⟨?_, iter_ext _ _ _⟩; rw [HQ.out, HS.out]; simp_all)
    · have hn := fun ty => run_next_end (P := Try.prog) w s pos ty hlt
      have hst : wordFrom s f pos k = (k, s.size) := by
        cases f with
        | zero => rfl
        | succ f => rw [wordFrom, if_neg hlt]
      have HS := Lib.hid hst
      clear hst
      go_wp2
      go_ret2
      refine ⟨?_, iter_ext _ _ _⟩
      rw [HQ.out, HS.out]
      rfl
theorem c_Word (s : ByteArray) (w : World) (hs : s.size ≤ maxLen) : Calls Try.prog 69 #[.string s] w fun e w' => e = .returned (.int .i64 (lexWord s)) ∧ Ext w w' := by
  have hs' := hs
  unfold maxLen at hs'
  go_enter Try.func69, Try.ntmps69
  go_wp2_with (go_at_call 72; (with_reducible refine (c_word _ _ hs).mono ?_); rintro e w1 ⟨rfl, hb⟩)
  all_goals
    go_ret
    refine ⟨ret_int ?_, by assumption⟩
    unfold lexWord
    split <;> first | rfl | omega
theorem c_mayLong (s : ByteArray) (w : World) (hs : s.size ≤ maxLen) : Calls Try.prog 70 #[.string s] w fun e w' => e = .returned (.int .i64 (mayLong s)) ∧ w = w' := by
  unfold maxLen at hs
  go_enter Try.func70, Try.ntmps70
  go_wp2
  all_goals
    go_ret
    refine ⟨ret_int ?_, rfl⟩
    unfold mayLong
    split <;> first | rfl | omega
theorem c_mayWord (s : ByteArray) (k : Int) (w : World) (hs : s.size ≤ maxLen) : Calls Try.prog 65 #[.string s, .int .i64 k] w fun e w' => e = .returned (.int .i64 (mayWord s k)) ∧ Ext w w' := by
  go_enter Try.func65, Try.ntmps65
  go_wp2_with (first | (go_at_call 69; (with_reducible refine (c_Word _ _ hs).mono ?_); rintro e w1 ⟨rfl, hb⟩) | (go_at_call 70; (with_reducible refine (c_mayLong _ _ hs).mono ?_); rintro e w2 ⟨rfl, rfl⟩))
  all_goals
    go_ret
    refine ⟨ret_int ?_, by assumption⟩
    unfold mayWord
    simp_all
end Go.Proofs.Ytcphjfggjjonpaa
