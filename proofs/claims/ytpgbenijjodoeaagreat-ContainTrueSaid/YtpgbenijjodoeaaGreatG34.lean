/- Rows.Has; the walk of the join's test of what is missing. The walk of the search's tests at one place. -/
import Derived.Test.YtpgbenijjodoeaaGreatG4
import Derived.Test.YtpgbenijjodoeaaGreatG8
import Derived.Test.YtpgbenijjodoeaaGreatG27
import Derived.Test.YtpgbenijjodoeaaGreatG33
namespace Go.Proofs.YtpgbenijjodoeaaGreat
open Go.ChangeShapes Go.WideShapes Go.ChangeAt Go.RowKit
/-- The numbers of variables in memory, from their block's beginning on. -/
def NumsAt (w : World) (a : Option Addr) (vars : List Nat) : Prop := ∀ j v, vars[j]? = some v → ∃ b o, a = some ⟨b, o, none⟩ ∧ w.cell? ⟨b, o + j, none⟩ = some (.int .i64 (v : Nat))
theorem NumsAt.keep {W w : World} (hb : Ext W w) {a : Option Addr} {vars : List Nat} (h : NumsAt W a vars) : NumsAt w a vars := fun j v hv => by
  obtain ⟨b, o, h1, h2⟩ := h j v hv
  exact ⟨b, o, h1, YtpgbenijjodoeaaGreat.keep hb h2⟩
end Go.Proofs.YtpgbenijjodoeaaGreat
namespace Go.Proofs.YtpgbenijjodoeaaGreat
open Go.ChangeShapes Go.WideShapes Go.ChangeAt Go.RowKit
/-- A test's function, and what it answers for this row in this world and behind. -/
def FnOk (w : World) (rowv fv : Value) (q : Bool) : Prop :=
  (∃ b : Nat, fv = .func (.func 102) #[] #[.pointer (some ⟨b, 0, none⟩)] ∧ ∀ W, Ext w W → Calls Tryz.prog 102 #[rowv, .pointer (some ⟨b, 0, none⟩)] W fun e w' => e = .returned (.bool q) ∧ Ext W w') ∨
  (∃ p1 p2 p3 p4 : Nat, fv = .func (.func 104) #[] #[.pointer (some ⟨p1, 0, none⟩), .pointer (some ⟨p2, 0, none⟩), .pointer (some ⟨p3, 0, none⟩), .pointer (some ⟨p4, 0, none⟩)] ∧ ∀ W, Ext w W → Calls Tryz.prog 104 #[rowv, .pointer (some ⟨p1, 0, none⟩), .pointer (some ⟨p2, 0, none⟩), .pointer (some ⟨p3, 0, none⟩), .pointer (some ⟨p4, 0, none⟩)] W fun e w' => e = .returned (.bool q) ∧ Ext W w')
theorem FnOk.ext {w w' : World} {rowv fv : Value} {q : Bool} (h : FnOk w rowv fv q) (e : Ext w w') : FnOk w' rowv fv q := by
  rcases h with ⟨b, h1, h2⟩ | ⟨p1, p2, p3, p4, h1, h2⟩
  · exact .inl ⟨b, h1, fun W hW => h2 W (ext_trans e hW)⟩
  · exact .inr ⟨p1, p2, p3, p4, h1, fun W hW => h2 W (ext_trans e hW)⟩
set_option maxRecDepth 100000 in
theorem c_pass1 (last : Int) (fv : Value) (q : Bool) (pw bx : Nat) (ar : Option Addr) (n c : Nat) (w : World) (hf : FnOk w (.slice ar n c) fv q) (hb : w.cell? ⟨bx, 0, none⟩ = some (.pointer (some ⟨pw, 0, none⟩))) (hr : w.cell? ⟨pw, 2, none⟩ = some (.slice ar n c)) :
    Calls Tryz.prog 118 #[.agg #[.int .i64 last, fv], .pointer (some ⟨bx, 0, none⟩)] w fun e w' => e = .returned (.bool (!q)) ∧ Ext w w' := by
  have z1 := World.block_lt_of_cell? _ _ hb
  have z2 := World.block_lt_of_cell? _ _ hr
  dsimp only at z1 z2
  have hd0 : Ext w w := Below.refl _ _
  rcases hf with ⟨b, rfl, hC⟩ | ⟨p1, p2, p3, p4, rfl, hC⟩
  · have HC := Lib.hid hC
    clear hC
    go_enter Tryz.func118, Tryz.ntmps118
    go_wp2
    refine wp_gen (fun W hW => ?_)
    have hE : Ext w W := by rw [hW]; go_grown
    have y0 : W.cell? ⟨w.heap.size, 1, none⟩ = some (.func (.func 102) #[] #[.pointer (some ⟨b, 0, none⟩)]) := by rw [hW]; go_simp
    clear hW
    have y1 := keep hE hb
    have y2 := keep hE hr
    clear hb hr
    have z3 := World.block_lt_of_cell? _ _ y0
    have z4 : bx < W.heap.size := World.block_lt_of_cell? _ _ y1
    have z5 : pw < W.heap.size := World.block_lt_of_cell? _ _ y2
    dsimp only at z3
    have hdW : Ext W W := Below.refl _ _
    go_region_held3 (fun w' => ∀ b o, b < W.heap.size → w'.cell? ⟨b, o, none⟩ = W.cell? ⟨b, o, none⟩)
      ((intro bb oo hbb; repeat (first | (with_reducible rfl) | (with_reducible rw [World.cell?_drew]) | ((with_reducible refine (hc7 bb oo ?_).trans ?_); · (first | omega | (simp; done) | (simp; omega))))))
      (first
        | (go_at_call 102; (with_reducible refine (HC.out _ (ext_trans hE (by repeat (with_reducible (first | exact hdW | apply ext_drew))))).mono ?_); rintro e w7 ⟨rfl, h7⟩; have e7 : Ext W w7 := ext_trans (by repeat (with_reducible (first | exact hdW | apply ext_drew))) h7; obtain ⟨hc7, hf7⟩ := bcell2 e7)
        | fail)
    all_goals
      go_wp2
      go_returns
      exact ⟨rfl, ext_trans hE (by repeat (with_reducible (first | exact e7 | apply ext_drew)))⟩
  · have HC := Lib.hid hC
    clear hC
    go_enter Tryz.func118, Tryz.ntmps118
    go_wp2
    refine wp_gen (fun W hW => ?_)
    have hE : Ext w W := by rw [hW]; go_grown
    have y0 : W.cell? ⟨w.heap.size, 1, none⟩ = some (.func (.func 104) #[] #[.pointer (some ⟨p1, 0, none⟩), .pointer (some ⟨p2, 0, none⟩), .pointer (some ⟨p3, 0, none⟩), .pointer (some ⟨p4, 0, none⟩)]) := by rw [hW]; go_simp
    clear hW
    have y1 := keep hE hb
    have y2 := keep hE hr
    clear hb hr
    have z3 := World.block_lt_of_cell? _ _ y0
    have z4 : bx < W.heap.size := World.block_lt_of_cell? _ _ y1
    have z5 : pw < W.heap.size := World.block_lt_of_cell? _ _ y2
    dsimp only at z3
    have hdW : Ext W W := Below.refl _ _
    go_region_held3 (fun w' => ∀ b o, b < W.heap.size → w'.cell? ⟨b, o, none⟩ = W.cell? ⟨b, o, none⟩)
      ((intro bb oo hbb; repeat (first | (with_reducible rfl) | (with_reducible rw [World.cell?_drew]) | ((with_reducible refine (hc7 bb oo ?_).trans ?_); · (first | omega | (simp; done) | (simp; omega))))))
      (first
        | (go_at_call 104; (with_reducible refine (HC.out _ (ext_trans hE (by repeat (with_reducible (first | exact hdW | apply ext_drew))))).mono ?_); rintro e w7 ⟨rfl, h7⟩; have e7 : Ext W w7 := ext_trans (by repeat (with_reducible (first | exact hdW | apply ext_drew))) h7; obtain ⟨hc7, hf7⟩ := bcell2 e7)
        | fail)
    all_goals
      go_wp2
      go_returns
      exact ⟨rfl, ext_trans hE (by repeat (with_reducible (first | exact e7 | apply ext_drew)))⟩
/-- The tests of one place, and what they answer. -/
def TsAt (w : World) (rowv : Value) (a : Option Addr) (qs : List Bool) : Prop := ∀ j q, qs[j]? = some q → ∃ b o last fv, a = some ⟨b, o, none⟩ ∧ w.cell? ⟨b, o + j * 2, none⟩ = some (.int .i64 last) ∧ w.cell? ⟨b, o + j * 2 + 1, none⟩ = some fv ∧ FnOk w rowv fv q
theorem TsAt.keep {w w' : World} (e : Ext w w') {rowv : Value} {a : Option Addr} {qs : List Bool} (h : TsAt w rowv a qs) : TsAt w' rowv a qs := fun j q hq => by
  obtain ⟨b, o, last, fv, h1, h2, h3, h4⟩ := h j q hq
  exact ⟨b, o, last, fv, h1, YtpgbenijjodoeaaGreat.keep e h2, YtpgbenijjodoeaaGreat.keep e h3, h4.ext e⟩
set_option maxRecDepth 100000 in
set_option maxHeartbeats 2000000 in
theorem c_idxT (qs : List Bool) (a : Option Addr) (n ca : Nat) (pw bx : Nat) (ar : Option Addr) (nr cr : Nat) (w : World) (hn : qs.length = n) (hsz : n ≤ 1000000000000) (ht : TsAt w (.slice ar nr cr) a qs) (hb : w.cell? ⟨bx, 0, none⟩ = some (.pointer (some ⟨pw, 0, none⟩))) (hr : w.cell? ⟨pw, 2, none⟩ = some (.slice ar nr cr)) :
    Calls Tryz.prog 137 #[.slice a n ca, .func (.func 118) #[] #[.pointer (some ⟨bx, 0, none⟩)]] w fun e w' => ∃ i : Int, e = .returned (.int .i64 i) ∧ decide (0 ≤ i) = qs.any (fun q => !q) ∧ Ext w w' := by
  have HT := Lib.hid ht
  have HB := Lib.hid hb
  have HR := Lib.hid hr
  have HN := Lib.hid hn
  clear ht hb hr hn
  go_enter Tryz.func137, Tryz.ntmps137
  go_wp2
  go_loopw [8] (fun iv wr => ∃ k : Nat, iv = .int .i64 (k : Nat) ∧ k ≤ n ∧ Ext w wr ∧ ∀ j q, j < k → qs[j]? = some q → q = true) (fun iv _ => n - (intOf iv).toNat)
  case atStart => exact ⟨0, rfl, Nat.zero_le _, Below.refl _ _, fun j q h => absurd h (by omega)⟩
  case round =>
    obtain ⟨k, rfl, hkn, hE, hall⟩ := hrel
    have HA := Lib.hid hall
    clear hall
    by_cases hk : k < n
    · obtain ⟨q, hq⟩ : ∃ q, qs[k]? = some q := ⟨_, List.getElem?_eq_getElem (by rw [HN.out]; exact hk)⟩
      obtain ⟨b, o, last, fv, rfl, h2, h3, h4⟩ := HT.out.keep hE k q hq
      have P1 := Lib.hid (c_pass1 last fv q pw bx ar nr cr wr h4 (keep hE HB.out) (keep hE HR.out))
      have HE := Lib.hid hE
      have HQ := Lib.hid hq
      clear hE hq h4
      cases q with
      | true =>
        go_wp2_with (go_at_call 118; (with_reducible refine P1.out.mono ?_); rintro e w2 ⟨rfl, e2⟩)
        go_roundw
        case rel =>
          refine ⟨k + 1, by simp, by omega, ext_trans HE.out e2, fun j q hj hjq => ?_⟩
          rcases Nat.lt_or_ge j k with h | h
          · exact HA.out j q h hjq
          · obtain rfl : j = k := by omega
            rw [HQ.out] at hjq
            cases hjq
            rfl
        case measure => simp [intOf]; omega
      | false =>
        go_wp2_with (go_at_call 118; (with_reducible refine P1.out.mono ?_); rintro e w2 ⟨rfl, e2⟩)
        go_returns
        refine ⟨(k : Int), rfl, ?_, ext_trans HE.out e2⟩
        rw [decide_eq_true (by omega)]
        exact (List.any_eq_true.2 ⟨false, List.mem_of_getElem? HQ.out, rfl⟩).symm
    · obtain rfl : k = n := by omega
      have HE := Lib.hid hE
      clear hE
      go_wp2
      go_returns
      refine ⟨-1, rfl, ?_, HE.out⟩
      rw [decide_eq_false (by omega)]
      refine (List.any_eq_false.2 fun q hq => ?_).symm
      obtain ⟨j, hj⟩ := List.mem_iff_getElem?.1 hq
      rw [HA.out j q (by rw [← HN.out]; exact (List.getElem?_eq_some_iff.1 hj).1) hj]
      simp
set_option maxRecDepth 100000 in
theorem c_contT (qs : List Bool) (a : Option Addr) (n ca : Nat) (pw bx : Nat) (ar : Option Addr) (nr cr : Nat) (w : World) (hn : qs.length = n) (hsz : n ≤ 1000000000000) (ht : TsAt w (.slice ar nr cr) a qs) (hb : w.cell? ⟨bx, 0, none⟩ = some (.pointer (some ⟨pw, 0, none⟩))) (hr : w.cell? ⟨pw, 2, none⟩ = some (.slice ar nr cr)) :
    Calls Tryz.prog 117 #[.slice a n ca, .func (.func 118) #[] #[.pointer (some ⟨bx, 0, none⟩)]] w fun e w' => e = .returned (.bool (qs.any fun q => !q)) ∧ Ext w w' := by
  have I := Lib.hid (c_idxT qs a n ca pw bx ar nr cr w hn hsz ht hb hr)
  clear hn hsz ht hb hr
  go_enter Tryz.func117, Tryz.ntmps117
  go_wp2_with (go_at_call 137; (with_reducible refine I.out.mono ?_); rintro e w2 ⟨i, rfl, hi, e2⟩)
  go_returns
  exact ⟨by rw [← hi]; rfl, e2⟩
set_option maxRecDepth 100000 in
/-- The tests of one place: all hold, or not. -/
theorem c_passes (qs : List Bool) (a : Option Addr) (n ca : Nat) (pw pm gt_ v nt ct : Nat) (ar : Option Addr) (nr cr : Nat) (w : World) (hn : qs.length = n) (hsz : n ≤ 1000000000000) (ht : TsAt w (.slice ar nr cr) a qs) (hr : w.cell? ⟨pw, 2, none⟩ = some (.slice ar nr cr))
    (h0 : w.cell? ⟨pw, 0, none⟩ = some (.pointer (some ⟨pm, 0, none⟩))) (h3 : w.cell? ⟨pm, 3, none⟩ = some (.slice (some ⟨gt_, 0, none⟩) nt ct)) (hv : v < nt) (hg : w.cell? ⟨gt_, v, none⟩ = some (.slice a n ca)) :
    Calls Tryz.prog 106 #[.pointer (some ⟨pw, 0, none⟩), .int .i64 (v : Nat)] w fun e w' => e = .returned (.bool (qs.all id)) ∧ Ext w w' := by
  have CO : Hid (∀ W, Ext w W → ∀ bx, W.cell? ⟨bx, 0, none⟩ = some (.pointer (some ⟨pw, 0, none⟩)) → Calls Tryz.prog 117 #[.slice a n ca, .func (.func 118) #[] #[.pointer (some ⟨bx, 0, none⟩)]] W fun e w' => e = .returned (.bool (qs.any fun q => !q)) ∧ Ext W w') := fun W hW bx hbx => c_contT qs a n ca pw bx ar nr cr W hn hsz (ht.keep hW) hbx (keep hW hr)
  have HQ : Hid ((!(qs.any fun q => !q)) = qs.all id) := by
    show _ = _
    clear ht CO hn
    induction qs with
    | nil => rfl
    | cons q l ih => cases q <;> simp_all
  obtain ⟨q, hq⟩ : ∃ q, (qs.any fun q => !q) = q := ⟨_, rfl⟩
  rw [hq] at CO HQ
  have z0 := World.block_lt_of_cell? _ _ h0
  have z3 := World.block_lt_of_cell? _ _ h3
  have zg := World.block_lt_of_cell? _ _ hg
  dsimp only at z0 z3 zg
  clear ht hn hq hr
  go_enter Tryz.func106, Tryz.ntmps106
  go_wp2_with (go_at_call 117; (with_reducible refine (CO.out _ (by go_grown) _ (by go_simp)).mono ?_); rintro e w2 ⟨rfl, e2⟩)
  go_returns
  exact ⟨by rw [← HQ.out]; rfl, ext_trans (by go_grown) e2⟩
end Go.Proofs.YtpgbenijjodoeaaGreat
