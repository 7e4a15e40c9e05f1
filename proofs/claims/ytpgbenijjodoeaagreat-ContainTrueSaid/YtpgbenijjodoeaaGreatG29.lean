/- The walk of the search's from where all variables have a constant: the row is handed out. -/
import Derived.Test.YtpgbenijjodoeaaGreatG8
import Derived.Test.YtpgbenijjodoeaaGreatG28
namespace Go.Proofs.YtpgbenijjodoeaaGreat
open Go.ChangeShapes Go.WideShapes Go.ChangeAt Go.RowKit Go.Shelf
attribute [local go_sem] Oper.semAt_some
theorem c_clipS (a : Option Addr) (n c : Nat) (w : World) (hn : n ≤ c) (hc : a = none → c = 0) : Calls Tryz.prog 55 #[.slice a n c] w fun e w' => e = .returned (.slice a n n) ∧ w' = w := by
  cases a with
  | none =>
    obtain rfl := hc rfl
    obtain rfl : n = 0 := by omega
    go_enter Tryz.func55, Tryz.ntmps55
    go_wp2
    go_returns
    trivial
  | some ad =>
    go_enter Tryz.func55, Tryz.ntmps55
    go_wp2
    go_returns
    trivial
theorem ext_but {W W' : World} (e : Ext W W') : ButS (fun _ => False) W W' := ⟨e.os, e.tape, e.output, e.size, fun b hb _ => e.block b hb⟩
/-- What is asked of a call of what takes the rows. -/
def YieldOk (sc : Scn) (l : Nat) (J : Taker) (Jx : (Nat → Prop) → World → Prop) : Prop := ∀ (done : List (List ByteArray)) (x : List ByteArray) (W : World) (C : Nat → Prop) (a : Option Addr),
  J done C W → ButS sc.T sc.w2 W → (∀ b, C b → b < W.heap.size ∧ sc.far b) → x.length = sc.n → StrsAt W a sc.n x → (∀ b, (Value.slice a sc.n sc.n).ownBlock = some b → ¬ C b ∧ sc.w2.heap.size ≤ b) → (∀ t ∈ sc.ts, t.vars.map (gt x) ∈ t.rows) →
  YieldAt Fence.wide 3 Tryz.prog l #[.slice a sc.n sc.n] W fun e W' => ∃ C', ((e = .returned (.bool true) ∧ J (done ++ [x]) C' W') ∨ (e = .returned (.bool false) ∧ Jx C' W')) ∧ ButS C W W' ∧ (∀ b, C' b → C b ∨ W.heap.size ≤ b) ∧ ∀ b, C' b → b < W'.heap.size
theorem WSt.taken {sc : Scn} {J : (Nat → Prop) → World → Prop} {W : World} {row : List ByteArray} {L : Nat → List RLv} {F : Nat → Prop} (h : WSt sc J W row L F) : ∃ C, J C W ∧ (∀ b, C b → b < W.heap.size ∧ sc.far b) ∧
    ∀ (J2 : (Nat → Prop) → World → Prop) (C' : Nat → Prop) (W' : World), J2 C' W' → ButS C W W' → (∀ b, C' b → C b ∨ W.heap.size ≤ b) → (∀ b, C' b → b < W'.heap.size) → Mv sc J2 W row L F W' := by
  obtain ⟨x, S, C, h1, h2, h3, h4, h5, h6, h7⟩ := h.ex
  have hCF : ∀ b, C b → F b := fun b hb => (h7 b).2 (.inr (.inl hb))
  refine ⟨C, h6, fun b hb => ⟨h.low b (hCF b hb), h.far b (hCF b hb)⟩, fun J2 C' W' j2 hb hf hl => ?_⟩
  have hfarC : ∀ b, C' b → sc.far b := fun b hb => by
    rcases hf b hb with h | h
    · exact (h7 b |>.2 (.inr (.inl h))) |> ‹WSt sc J W row L F›.far b
    · exact .inr (Nat.le_trans ‹WSt sc J W row L F›.env.size h)
  have hlow := h.low
  have hfar := h.far
  have henv := h.env
  have hSlow : ∀ i b, S i b → b < W.heap.size := fun i b hb => hlow b ((h7 b).2 (.inr (.inr ⟨i, hb⟩)))
  have hgr : sc.gr < W.heap.size := hlow _ ((h7 _).2 (.inl rfl))
  refine ⟨fun b => b = sc.gr ∨ C' b ∨ ∃ i, S i b, ⟨env_step henv hb (fun b hb => hfar b (hCF b hb)), fun b hb => ?_, fun b hb' => ?_, x, S, C', ⟨h1.1, h1.2.1, h1.2.2.but hb h5⟩, fun i t pc pt a1 a2 a3 => (h2 i t pc pt a1 a2 a3).buts hb (fun b hb hc => (h4 i b hb).2 hc), h3, fun i b hb => ⟨(h4 i b hb).1, fun hc => ?_⟩, fun hc => ?_, j2, fun _ => Iff.rfl⟩, hb.mono fun b _ hc => hCF b hc, fun b hb => ?_⟩
  · rcases hb with hb | hb | ⟨i, hb⟩
    · exact hfar b ((h7 b).2 (.inl hb))
    · exact hfarC b hb
    · exact hfar b ((h7 b).2 (.inr (.inr ⟨i, hb⟩)))
  · rcases hb' with rfl | hb' | ⟨i, hb'⟩
    · exact Nat.lt_of_lt_of_le hgr hb.size
    · exact hl b hb'
    · exact Nat.lt_of_lt_of_le (hSlow i b hb') hb.size
  · rcases hf b hc with h | h
    · exact (h4 i b hb).2 h
    · have := hSlow i b hb
      omega
  · rcases hf _ hc with h | h
    · exact h5 h
    · omega
  · rcases hb with hb | hb | ⟨i, hb⟩
    · exact .inl ((h7 b).2 (.inl hb))
    · rcases hf b hb with h | h
      · exact .inl (hCF b h)
      · exact .inr h
    · exact .inl ((h7 b).2 (.inr (.inr ⟨i, hb⟩)))
set_option maxRecDepth 100000 in
set_option maxHeartbeats 4000000 in
theorem c_from_end (sc : Scn) (l : Nat) (J : Taker) (Jx : (Nat → Prop) → World → Prop) (ST : Sta sc) (SB : Stb sc) (hJ : ∀ done, Stable sc (J done)) (hyv : sc.yv = .func (.yield l) #[] #[]) (hY : YieldOk sc l J Jx) : FromOk sc J Jx sc.n 0 := by
  intro done row w L F hrow h hL
  obtain ⟨x, x1, x2, x3⟩ := h.rowx
  have PS := SB.pass sc.n w x (Nat.le_refl _) h.env x1 x3
  rw [hrow] at x2
  rw [x2] at PS
  obtain rfl : x = row := by rw [← x2, ← x1, List.take_length]
  have HLV : Hid (∀ t ∈ sc.ts, t.vars.map (gt x) ∈ t.rows) := fun t ht => ((ST.jok t ht).has_all x).1 (hL.1 t ht)
  have HPS := Lib.hid PS
  have HST := Lib.hid ST
  have HSB := Lib.hid SB
  have HJ := Lib.hid hJ
  have HW := Lib.hid h
  have HROW := Lib.hid hrow
  have HY := Lib.hid hY
  obtain ⟨b, hb⟩ : ∃ b, sc.p sc.n x = b := ⟨_, rfl⟩
  rw [hb] at HPS
  have HB := Lib.hid hb
  clear PS ST SB hJ hL h hrow x1 x2 x3 hb hY
  refine (callsIn_wide (n := 4)).1 ?_
  refine callsIn_of_wp Tryz.func89 rfl trivial ?_ rfl
  simp only [Tryz.ntmps89, List.size_toArray, List.length_cons, List.length_nil, Nat.reduceAdd, Nat.reduceSub, Array.replicate_succ, Array.replicate_zero, List.push_toArray, List.append_toArray, List.nil_append, List.cons_append]
  cases b with
  | false =>
    gi_wp2_with (refine ⟨trivial, ?_⟩; gi_at_call 106; refine (callsIn_wide.2 (HPS.out)).mono ?_; rintro e w1 ⟨rfl, e1⟩)
    go_returns
    refine .inl ⟨rfl, ?_⟩
    rw [binds, if_neg (by rw [HB.out]; simp), List.append_nil]
    exact HW.out.mv_ext (HJ.out _) e1
  | true =>
    gi_wp2_with fail
    refine ⟨trivial, ?_⟩
    refine (callsIn_wide.2 HPS.out).mono ?_
    rintro e w1 ⟨rfl, e1⟩
    have hS1 := HW.out.ext (HJ.out _) e1
    obtain ⟨s0, s2, s3⟩ := HST.out.walk w1 hS1.env
    rw [hyv] at s3
    obtain ⟨an, cn, hnm⟩ := HSB.out.names
    have hn0 := hnm w1 hS1.env
    have HS1 := Lib.hid hS1
    have HE1 := Lib.hid e1
    have HBD : Hid (binds sc.ts sc.p 0 sc.n x = [x]) := by
      show _ = _
      rw [binds, if_pos HB.out]
    obtain ⟨C, jc, hC, hnext⟩ := hS1.taken
    have HNEXT := Lib.hid hnext
    obtain ⟨x', y1, y2, y3⟩ := hS1.rowx
    obtain rfl : x' = x := by rw [← y2, HROW.out, ← y1, List.take_length]
    have hrow : StrsAt w1 (some ⟨sc.gr, 0, none⟩) sc.n x' := by
      refine ⟨by have := HST.out.nn.1; unfold maxLen; omega, y1, fun i z hz => ⟨sc.gr, 0, rfl, ?_⟩⟩
      rw [Nat.mul_one, Nat.zero_add]
      exact (y3 i z hz).1
    have CL : Hid (∀ W, Ext w1 W → Calls Tryz.prog 58 #[.slice (some ⟨sc.gr, 0, none⟩) sc.n sc.cr] W fun e w' => ∃ a' c', e = .returned (.slice a' sc.n c') ∧ w'.ownsRow W.heap.size 9 1 (.slice a' sc.n c') sc.n (x'.map Value.string) ∧ Ext W w') := fun W hW => (c_cloneS x' _ sc.n sc.cr W (hrow.keep hW) (by have := HST.out.nn.1; omega) (by intro h; cases h)).mono fun e w' ⟨a', c', r1, r2, _, r3⟩ => ⟨a', c', r1, r2, r3⟩
    have YP : Hid (∀ (W2 : World) (a2 : Option Addr) (c2 B : Nat), Ext w1 W2 → w1.heap.size ≤ B → W2.ownsRow B 9 1 (.slice a2 sc.n c2) sc.n (x'.map Value.string) → YieldAt Fence.wide 3 Tryz.prog l #[.slice a2 sc.n sc.n] W2 fun e W' => ∃ b : Bool, e = .returned (.bool b) ∧ FromPost sc J Jx (done ++ [x']) x' L F w (.returned (.bool b)) W') := fun W2 a2 c2 B hE hB ho => by
      have hS2 := HS1.out.ext (HJ.out _) hE
      have hnew : ∀ b, (Value.slice a2 sc.n sc.n).ownBlock = some b → w1.heap.size ≤ b := fun b hb => by
        have e : (Value.slice a2 sc.n c2).ownBlock = some b := by cases a2 <;> exact hb
        exact Nat.le_trans hB (ho.lt b e).1
      obtain ⟨fn, tmps, assign, body, hy, hR⟩ := HY.out done x' W2 C a2 (HJ.out _ _ _ _ _ jc (ext_but hE) (fun _ h => h.elim)) hS2.env (fun b hb => ⟨Nat.lt_of_lt_of_le (hC b hb).1 hE.size, (hC b hb).2⟩) y1 (own_strs ho (by have := HST.out.nn.1; unfold maxLen; omega)) (fun b hb => ⟨fun hc => by have := (hC b hc).1; have := hnew b hb; omega, Nat.le_trans HS1.out.env.size (hnew b hb)⟩) HLV.out
      refine ⟨fn, tmps, assign, body, hy, hR.mono ?_⟩
      rintro e W' ⟨C', h1, h2, h3, h4⟩
      have h5 : ∀ J2, J2 C' W' → Mv sc J2 w x' L F W' := fun J2 j2 => Mv.trans ((ButS.refl _ _).ext HE1.out) (fun _ h => .inl h) (HNEXT.out J2 C' W' j2 (((ButS.refl _ w1).ext hE).trans h2) (fun b hb => by
        rcases h3 b hb with h | h
        · exact .inl h
        · exact .inr (Nat.le_trans hE.size h)) h4)
      rcases h1 with ⟨rfl, j2⟩ | ⟨rfl, j2⟩
      · exact ⟨true, rfl, .inl ⟨rfl, h5 _ j2⟩⟩
      · exact ⟨false, rfl, .inr ⟨rfl, h5 _ j2⟩⟩
    have CP : Hid (∀ (a2 : Option Addr) (c2 B : Nat) (W2 : World), W2.ownsRow B 9 1 (.slice a2 sc.n c2) sc.n (x'.map Value.string) → Calls Tryz.prog 55 #[.slice a2 sc.n c2] W2 fun e w' => e = .returned (.slice a2 sc.n sc.n) ∧ w' = W2) := fun a2 c2 B W2 ho => by
      obtain ⟨h1, h2⟩ := cap_of_own ho
      exact c_clipS a2 sc.n c2 W2 h1 (fun e => (h2 e).2)
    clear hnm hS1 hnext y1 y2 y3 e1 hrow
    have mixed : Tryz.prog.follows .mixedOrders = true := by kernel_rfl
    gi_wp2
    gi_region_with_o (first
      | (refine ⟨trivial, ?_⟩; gi_at_call 58; refine (callsIn_wide.2 (CL.out _ (by go_grown))).mono ?_; rintro e w2 ⟨a2, c2, rfl, o2, E2⟩; have E3 : Ext w1 w2 := ext_trans (by go_grown) E2; have z3 := keep E3 s3; have OW := Lib.hid o2; have EE := Lib.hid E3; clear o2 E2 E3)
      | (refine ⟨trivial, ?_⟩; gi_at_call 55; refine (callsIn_wide.2 (CP.out _ _ _ _ (by first | exact OW.out | exact own_drew OW.out))).mono ?_; rintro e w3 ⟨rfl, hw3⟩; obtain rfl := hw3.symm; obtain ⟨fn, tmps, assign, body, hy, hR⟩ := YP.out _ _ _ _ EE.out (by simp) OW.out)
      | (refine hR.mono ?_; rintro e w5 ⟨b5, rfl, hp5⟩))
    all_goals
      gi_wp2
      go_returns
      rw [HBD.out]
      exact hp5
/-- The search, from any variable on. -/
theorem c_from (sc : Scn) (l : Nat) (J : Taker) (Jx : (Nat → Prop) → World → Prop) (ST : Sta sc) (SB : Stb sc) (hJ : ∀ done, Stable sc (J done)) (hJx : Stable sc Jx) (hyv : sc.yv = .func (.yield l) #[] #[]) (hY : YieldOk sc l J Jx) : ∀ k v, v + k = sc.n → FromOk sc J Jx v k
  | 0, v, h => by
    obtain rfl : v = sc.n := by omega
    exact c_from_end sc l J Jx ST SB hJ hyv hY
  | k + 1, v, h => c_from_step sc J Jx ST SB hJ hJx v k h (c_from sc l J Jx ST SB hJ hJx hyv hY k (v + 1) (by omega))
end Go.Proofs.YtpgbenijjodoeaaGreat
