/- The law's step: one call of a pair of cursors, and what they tell behind it: by what is asked of a pair. Cursors that are nil, or that nobody made: every call's contract; a pair of such. A cursor and the document's, as a pair, beside another such pair. -/
import Derived.Test.YthjpfplebbnbpaaGreatRCs
import Derived.Test.YthjpfplebbnbpaaGreatNilT
import Derived.Test.YthjpfplebbnbpaaGreatEachT
namespace Go.Proofs.YthjpfplebbnbpaaGreat
open Go.ChangeShapes Go.WideShapes Go.ChangeAt Go.RowKit
/-- What a call of one of a pair leaves. -/
def PPost {X : Type} (I : X → X → (Nat → Prop) → World → Prop) (x y : X) (S : Nat → Prop) (W w' : World) : Prop := ∃ S', I x y S' w' ∧ ButS S W w' ∧ ∀ b, S' b → S b ∨ W.heap.size ≤ b
/-- A pair of cursors that tell the same. -/
structure PairC {X : Type} (cp mp : Option Addr) (I : X → X → (Nat → Prop) → World → Prop) (o1 o2 o3 : X → X) (o4 : ByteArray → X → X) (b1 b2 b3 : X → Bool) (b4 : ByteArray → X → Bool) (qAt : X → Nat) (qKey : X → ByteArray) (qEnd : X → Bool) (qKeys : X → List ByteArray) (qCnt : X → Nat) : Prop where
  ext : ∀ x y S W W', I x y S W → Ext W W' → I x y S W'
  low : ∀ x y S W, I x y S W → ∀ b, S b → b < W.heap.size
  opn : ∀ x y S W, I x y S W → Calls Tryz.prog 27 #[.pointer cp] W fun e w' => e = .returned (.bool (b1 x)) ∧ PPost I (o1 x) y S W w'
  up : ∀ x y S W, I x y S W → Calls Tryz.prog 29 #[.pointer cp] W fun e w' => e = .returned (.bool (b2 x)) ∧ PPost I (o2 x) y S W w'
  nxt : ∀ x y S W, I x y S W → Calls Tryz.prog 31 #[.pointer cp] W fun e w' => e = .returned (.bool (b3 x)) ∧ PPost I (o3 x) y S W w'
  sek : ∀ t x y S W, I x y S W → Calls Tryz.prog 33 #[.pointer cp, .string t] W fun e w' => e = .returned (.bool (b4 t x)) ∧ PPost I (o4 t x) y S W w'
  ropn : ∀ x y S W, I x y S W → Calls Tryz.prog 28 #[.pointer mp] W fun e w' => e = .returned (.bool (b1 y)) ∧ PPost I x (o1 y) S W w'
  rup : ∀ x y S W, I x y S W → Calls Tryz.prog 30 #[.pointer mp] W fun e w' => e = .returned (.bool (b2 y)) ∧ PPost I x (o2 y) S W w'
  rnxt : ∀ x y S W, I x y S W → Calls Tryz.prog 32 #[.pointer mp] W fun e w' => e = .returned (.bool (b3 y)) ∧ PPost I x (o3 y) S W w'
  rsek : ∀ t x y S W, I x y S W → Calls Tryz.prog 34 #[.pointer mp, .string t] W fun e w' => e = .returned (.bool (b4 t y)) ∧ PPost I x (o4 t y) S W w'
  at_ : ∀ x S W, I x x S W → Calls Tryz.prog 36 #[.pointer cp] W fun e w' => e = .returned (.int .i64 (qAt x : Nat)) ∧ Ext W w'
  rat : ∀ x S W, I x x S W → Calls Tryz.prog 37 #[.pointer mp] W fun e w' => e = .returned (.int .i64 (qAt x : Nat)) ∧ Ext W w'
  key : ∀ x S W, I x x S W → Calls Tryz.prog 38 #[.pointer cp] W fun e w' => e = .returned (.string (qKey x)) ∧ Ext W w'
  rkey : ∀ x S W, I x x S W → Calls Tryz.prog 39 #[.pointer mp] W fun e w' => e = .returned (.string (qKey x)) ∧ Ext W w'
  end_ : ∀ x S W, I x x S W → Calls Tryz.prog 40 #[.pointer cp] W fun e w' => e = .returned (.bool (qEnd x)) ∧ Ext W w'
  rend : ∀ x S W, I x x S W → Calls Tryz.prog 41 #[.pointer mp] W fun e w' => e = .returned (.bool (qEnd x)) ∧ Ext W w'
  keys : ∀ x S W, I x x S W → Calls Tryz.prog 35 #[.pointer cp] W fun e w' => ∃ a n c, e = .returned (.slice a n c) ∧ w'.ownsRow W.heap.size 9 1 (.slice a n c) n ((qKeys x).map Value.string) ∧ Ext W w'
  rkeys : ∀ x S W, I x x S W → Calls Tryz.prog 42 #[.pointer mp] W fun e w' => ∃ a n c, e = .returned (.slice a n c) ∧ w'.ownsRow W.heap.size 9 1 (.slice a n c) n ((qKeys x).map Value.string) ∧ Ext W w'
  cnt : ∀ x S W, I x x S W → Calls Tryz.prog 43 #[.pointer cp] W fun e w' => e = .returned (.int .i64 (qCnt x : Nat)) ∧ Ext W w'
  rcnt : ∀ x S W, I x x S W → Calls Tryz.prog 44 #[.pointer mp] W fun e w' => e = .returned (.int .i64 (qCnt x : Nat)) ∧ Ext W w'
/-- What a step makes of a state. -/
def stepX {X : Type} (o1 o2 o3 : X → X) (o4 : ByteArray → X → X) (kd : Int) (tx : ByteArray) (x : X) : X := if kd = 1 then o1 x else if kd = 2 then o2 x else if kd = 3 then o3 x else if kd = 4 then o4 tx x else x
set_option maxRecDepth 100000 in
set_option maxHeartbeats 4000000 in
theorem c_step {X : Type} {cp mp : Option Addr} {I : X → X → (Nat → Prop) → World → Prop} {o1 o2 o3 : X → X} {o4 : ByteArray → X → X} {b1 b2 b3 : X → Bool} {b4 : ByteArray → X → Bool} {qAt : X → Nat} {qKey : X → ByteArray} {qEnd : X → Bool} {qKeys : X → List ByteArray} {qCnt : X → Nat} (hp : PairC cp mp I o1 o2 o3 o4 b1 b2 b3 b4 qAt qKey qEnd qKeys qCnt) (x : X) (S : Nat → Prop) (kd wh : Int) (tx : ByteArray) (w : World) (h : I x x S w) :
    Calls Tryz.prog 8 #[.pointer cp, .pointer mp, .agg #[.int .i64 kd, .int .i64 wh, .string tx]] w fun e w' => e = .returned (.bool true) ∧ ∃ S', I (stepX o1 o2 o3 o4 kd tx x) (stepX o1 o2 o3 o4 kd tx x) S' w' := by
  have HP := Lib.hid hp
  have H := Lib.hid h
  clear hp h
  obtain ⟨x', hx'⟩ : ∃ x', stepX o1 o2 o3 o4 kd tx x = x' := ⟨_, rfl⟩
  have HX := Lib.hid hx'
  rw [hx']
  clear hx'
  go_enter Tryz.func8, Tryz.ntmps8
  go_upto_region 3 with (fail)
  refine wp_gen (fun W1 hW1 => ?_)
  have E1 : Ext w W1 := by rw [hW1]; exact ext_alloc (Below.refl _ _) _
  have k0 : W1.cell? ⟨w.heap.size, 0, none⟩ = some (.int .i64 kd) := by rw [hW1]; go_simp
  have k2 : W1.cell? ⟨w.heap.size, 2, none⟩ = some (.string tx) := by rw [hW1]; go_simp
  have I1 := Lib.hid (HP.out.ext x x S w W1 H.out E1)
  have NB : Hid (¬ S w.heap.size) := fun hs => by
    have := HP.out.low x x S w H.out _ hs
    omega
  have K2 := Lib.hid k2
  clear hW1 E1
  go_upto_block 0 with (fail)
  go_cut [7, 8] (fun v7 v8 wc => ∃ b S', v7 = .bool b ∧ v8 = .bool b ∧ I x' x' S' wc)
  case first =>
    by_cases h1 : kd = 1
    · subst h1
      have hx1 : Hid (o1 x = x') := by rw [← HX.out]; rfl
      go_wp2_with (first
        | (go_at_call 27; (with_reducible refine (HP.out.opn x x S _ I1.out).mono ?_); rintro e w2 ⟨rfl, S2, i2, p2, q2⟩)
        | (go_at_call 28; (with_reducible refine (HP.out.ropn _ _ _ _ i2).mono ?_); rintro e w3 ⟨rfl, S3, i3, p3, q3⟩))
      go_meet
      exact ⟨_, S3, rfl, rfl, by rw [← hx1.out]; exact i3⟩
    · have n1 : (kd == 1) = false := by simpa using h1
      by_cases h2 : kd = 2
      · subst h2
        have hx1 : Hid (o2 x = x') := by rw [← HX.out]; rfl
        clear h1
        go_wp2_with (first
          | (go_at_call 29; (with_reducible refine (HP.out.up x x S _ I1.out).mono ?_); rintro e w2 ⟨rfl, S2, i2, p2, q2⟩)
          | (go_at_call 30; (with_reducible refine (HP.out.rup _ _ _ _ i2).mono ?_); rintro e w3 ⟨rfl, S3, i3, p3, q3⟩))
        go_meet
        exact ⟨_, S3, rfl, rfl, by rw [← hx1.out]; exact i3⟩
      · have n2 : (kd == 2) = false := by simpa using h2
        by_cases h3 : kd = 3
        · subst h3
          have hx1 : Hid (o3 x = x') := by rw [← HX.out]; rfl
          clear h1 h2
          go_wp2_with (first
            | (go_at_call 31; (with_reducible refine (HP.out.nxt x x S _ I1.out).mono ?_); rintro e w2 ⟨rfl, S2, i2, p2, q2⟩)
            | (go_at_call 32; (with_reducible refine (HP.out.rnxt _ _ _ _ i2).mono ?_); rintro e w3 ⟨rfl, S3, i3, p3, q3⟩))
          go_meet
          exact ⟨_, S3, rfl, rfl, by rw [← hx1.out]; exact i3⟩
        · have n3 : (kd == 3) = false := by simpa using h3
          by_cases h4 : kd = 4
          · subst h4
            have hx1 : Hid (o4 tx x = x') := by rw [← HX.out]; rfl
            clear h1 h2 h3
            go_wp2_with (first
              | (go_at_call 33; (with_reducible refine (HP.out.sek tx x x S _ I1.out).mono ?_); rintro e w2 ⟨rfl, S2, i2, p2, q2⟩; have k3 := p2.cell NB.out K2.out)
              | (go_at_call 34; (with_reducible refine (HP.out.rsek tx _ _ _ _ i2).mono ?_); rintro e w3 ⟨rfl, S3, i3, p3, q3⟩))
            go_meet
            exact ⟨_, S3, rfl, rfl, by rw [← hx1.out]; exact i3⟩
          · have n4 : (kd == 4) = false := by simpa using h4
            have hx1 : Hid (x = x') := by rw [← HX.out]; unfold stepX; rw [if_neg h1, if_neg h2, if_neg h3, if_neg h4]; rfl
            go_wp2
            go_meet
            exact ⟨false, S, rfl, rfl, by rw [← hx1.out]; exact I1.out⟩
  obtain ⟨b, S', rfl, rfl, i1⟩ := hcut
  have IC := Lib.hid i1
  clear i1 k0 k2 I1 NB K2 H HX
  obtain ⟨ks, hks⟩ : ∃ ks, qKeys x' = ks := ⟨_, rfl⟩
  have KY : Hid (Calls Tryz.prog 35 #[.pointer cp] wc fun e w' => ∃ a n c, e = .returned (.slice a n c) ∧ w'.ownsRow wc.heap.size 9 1 (.slice a n c) n (ks.map Value.string) ∧ Ext wc w') := by rw [← hks]; exact HP.out.keys x' S' wc IC.out
  have RK : Hid (∀ W, Ext wc W → Calls Tryz.prog 42 #[.pointer mp] W fun e w' => ∃ a n c, e = .returned (.slice a n c) ∧ w'.ownsRow W.heap.size 9 1 (.slice a n c) n (ks.map Value.string) ∧ Ext W w') := fun W hW => by rw [← hks]; exact HP.out.rkeys x' S' W (HP.out.ext _ _ _ _ _ IC.out hW)
  have AT : Hid (∀ W, Ext wc W → _) := fun W hW => HP.out.at_ x' S' W (HP.out.ext _ _ _ _ _ IC.out hW)
  have RA : Hid (∀ W, Ext wc W → _) := fun W hW => HP.out.rat x' S' W (HP.out.ext _ _ _ _ _ IC.out hW)
  have KE : Hid (∀ W, Ext wc W → _) := fun W hW => HP.out.key x' S' W (HP.out.ext _ _ _ _ _ IC.out hW)
  have RE : Hid (∀ W, Ext wc W → _) := fun W hW => HP.out.rkey x' S' W (HP.out.ext _ _ _ _ _ IC.out hW)
  have EN : Hid (∀ W, Ext wc W → _) := fun W hW => HP.out.end_ x' S' W (HP.out.ext _ _ _ _ _ IC.out hW)
  have RN : Hid (∀ W, Ext wc W → _) := fun W hW => HP.out.rend x' S' W (HP.out.ext _ _ _ _ _ IC.out hW)
  have CN : Hid (∀ W, Ext wc W → _) := fun W hW => HP.out.cnt x' S' W (HP.out.ext _ _ _ _ _ IC.out hW)
  have RC : Hid (∀ W, Ext wc W → _) := fun W hW => HP.out.rcnt x' S' W (HP.out.ext _ _ _ _ _ IC.out hW)
  obtain ⟨nA, hA⟩ : ∃ n, qAt x' = n := ⟨_, rfl⟩
  obtain ⟨tK, hK⟩ : ∃ n, qKey x' = n := ⟨_, rfl⟩
  obtain ⟨bE, hE⟩ : ∃ n, qEnd x' = n := ⟨_, rfl⟩
  obtain ⟨nC, hC⟩ : ∃ n, qCnt x' = n := ⟨_, rfl⟩
  rw [hA] at AT RA
  rw [hK] at KE RE
  rw [hE] at EN RN
  rw [hC] at CN RC
  have q1 : (b == b) = true := by simp
  have q2 : (tK.toList == tK.toList) = true := by simp
  have q3 : (bE == bE) = true := by simp
  have q4 : (nA == nA) = true := by simp
  have q5 : (nC == nC) = true := by simp
  clear hks hA hK hE hC
  go_upto_region 17 with (go_at_call 35; (with_reducible refine KY.out.mono ?_); rintro e w4 ⟨a4, n4, c4, rfl, o4', E4⟩)
  have O4 := Lib.hid o4'
  have E4h := Lib.hid E4
  have TX : Hid (∀ W a9 n9 c9, Ext w4 W → StrsAt W a9 n9 ks → Calls Tryz.prog 12 #[.slice a4 n4 c4, .slice a9 n9 c9] W fun e w' => e = .returned (.bool true) ∧ Ext W w') := fun W a9 n9 c9 hW h9 => by
    have := c_texts ks ks a4 n4 c4 a9 n9 c9 W ((own_strs O4.out (own_len O4.out).1).keep hW) h9
    rwa [decide_eq_true rfl] at this
  have hm4 : n4 ≤ 9223372036854775807 := (own_len O4.out).1
  clear o4' E4 KY
  go_upto_region 18 with (first
    | (go_at_call 36; (with_reducible refine (AT.out _ E4h.out).mono ?_); rintro e w5 ⟨rfl, E5⟩; have F5 := ext_trans E4h.out E5)
    | (go_at_call 37; (with_reducible refine (RA.out _ F5).mono ?_); rintro e w6 ⟨rfl, E6⟩; have F6 := ext_trans F5 E6)
    | (go_at_call 38; (with_reducible refine (KE.out _ F6).mono ?_); rintro e w7 ⟨rfl, E7⟩; have F7 := ext_trans F6 E7)
    | (go_at_call 39; (with_reducible refine (RE.out _ F7).mono ?_); rintro e w8 ⟨rfl, E8⟩; have F8 := ext_trans F7 E8)
    | (go_at_call 40; (with_reducible refine (EN.out _ F8).mono ?_); rintro e w9 ⟨rfl, E9⟩; have F9 := ext_trans F8 E9)
    | (go_at_call 41; (with_reducible refine (RN.out _ F9).mono ?_); rintro e w10 ⟨rfl, E10⟩; have F10 := ext_trans F9 E10)
    | (go_at_call 42; (with_reducible refine (RK.out _ F10).mono ?_); rintro e w11 ⟨a11, n11, c11, rfl, o11, E11⟩; have F11 := ext_trans F10 E11; have G11 := ext_trans E5 (ext_trans E6 (ext_trans E7 (ext_trans E8 (ext_trans E9 (ext_trans E10 E11))))))
    | (go_at_call 12; (with_reducible refine (TX.out _ _ _ _ G11 (own_strs o11 (own_len o11).1)).mono ?_); rintro e w12 ⟨rfl, E12⟩; have F12 := ext_trans F11 E12)
    | (go_at_call 43; (with_reducible refine (CN.out _ F12).mono ?_); rintro e w13 ⟨rfl, E13⟩; have F13 := ext_trans F12 E13)
    | (go_at_call 44; (with_reducible refine (RC.out _ F13).mono ?_); rintro e w14 ⟨rfl, E14⟩; have F14 := ext_trans F13 E14))
  have G14 : Hid (Ext w4 w14) := ext_trans G11 (ext_trans E12 (ext_trans E13 E14))
  have F14h := Lib.hid F14
  have O14 := Lib.hid (up_ext O4.out G14.out)
  clear E5 E6 E7 E8 E9 E10 E11 E12 E13 E14 F5 F6 F7 F8 F9 F10 F11 F12 F13 F14 G11 o11 q1 q2 q3 q4 q5 AT RA KE RE EN RN CN RC RK TX
  go_wp2
  go_loopw [11] (fun v wj => ∃ k : Nat, k ≤ n4 ∧ v = .int .i64 (k : Int) ∧ Ext wc wj ∧ ∃ us, wj.ownsRow wc.heap.size 9 1 (.slice a4 n4 c4) n4 us) (fun v _ => n4 - (intOf v).toNat)
  case atStart => exact ⟨0, Nat.zero_le _, rfl, F14h.out, _, O14.out⟩
  case round =>
    obtain ⟨k, hk, rfl, he, us, hu⟩ := hrel
    have HE := Lib.hid he
    by_cases hlk : k < n4
    · have hki : (k : Int) < (n4 : Int) := by omega
      obtain ⟨g7, p7, e7, _⟩ := own_formS hu (by omega)
      cases e7
      obtain ⟨u, hu1⟩ : ∃ u, us[k]? = some u := ⟨_, List.getElem?_eq_getElem (by have := hu.1; omega)⟩
      have ck := hu.cells (g := g7) rfl k u hu1
      rw [Addr.add_lit, Nat.zero_add] at ck
      have fk : wr.frozen? ⟨g7, k, none⟩ = false := hu.frozenAt _
      have NX : Hid (Ext wc (wr.setCell ⟨g7, k, none⟩ (.string ⟨#[103, 111, 110, 101]⟩)) ∧ ∃ us, (wr.setCell ⟨g7, k, none⟩ (.string ⟨#[103, 111, 110, 101]⟩)).ownsRow wc.heap.size 9 1 (.slice (some ⟨g7, 0, none⟩) n4 c4) n4 us) := ⟨ext_set he (hu.lt g7 rfl).1 _, _, (hu.stored k (.string ⟨#[103, 111, 110, 101]⟩)).1⟩
      clear he hu hu1
      go_wp2
      go_roundw
      case rel => exact ⟨k + 1, by omega, by go_num, NX.out.1, NX.out.2⟩
      case measure => simp [intOf]; omega
    · obtain rfl : k = n4 := by omega
      have hge : ¬ (k : Int) < (k : Int) := by omega
      clear hu he
      go_wp2
      go_returns
      exact ⟨rfl, S', HP.out.ext _ _ _ _ _ IC.out HE.out⟩
end Go.Proofs.YthjpfplebbnbpaaGreat
namespace Go.Proofs.YthjpfplebbnbpaaGreat
open Go.ChangeShapes Go.WideShapes Go.ChangeAt Go.RowKit
/-- A cursor that nobody made. -/
def ZeroAt (w : World) (z : Nat) : Prop := w.heap[z]? = some (.cells #[.pointer none, .slice none 0 0] 35 (0, 0))
theorem ZeroAt.ext {w w' : World} {z : Nat} (h : ZeroAt w z) (e : Ext w w') : ZeroAt w' z := (e.block z (Array.getElem?_eq_some_iff.1 h).1).trans h
theorem ZeroAt.cells {w : World} {z : Nat} (h : ZeroAt w z) : w.cell? ⟨z, 0, none⟩ = some (.pointer none) ∧ w.cell? ⟨z, 1, none⟩ = some (.slice none 0 0) := by
  unfold ZeroAt at h
  simp [World.cell?, h]
theorem nil_eqSp (w : World) : (binOp .eql 101 (.pointer none) (.pointer none)).run Tryz.prog w = .ok (.bool true) w := by kernel_rfl
theorem nil_neSp (w : World) : (binOp .neq 101 (.pointer none) (.pointer none)).run Tryz.prog w = .ok (.bool false) w := by kernel_rfl
/-- Either cursor: it has no last level. -/
def NoAt (w : World) (cp : Option Addr) : Prop := cp = none ∨ ∃ z, cp = some ⟨z, 0, none⟩ ∧ ZeroAt w z
theorem NoAt.ext {w w' : World} {cp : Option Addr} (h : NoAt w cp) (e : Ext w w') : NoAt w' cp := by
  rcases h with h | ⟨z, h1, h2⟩
  · exact .inl h
  · exact .inr ⟨z, h1, h2.ext e⟩
theorem n_last (w : World) (cp : Option Addr) (h : NoAt w cp) : Calls Tryz.prog 61 #[.pointer cp] w fun e w' => e = .returned (.pointer none) ∧ w' = w := by
  rcases h with rfl | ⟨z, rfl, hz⟩
  · have eqn := nil_eqC
    go_enter Tryz.func61, Tryz.ntmps61
    go_wp2
    go_returns
    exact ⟨rfl, rfl⟩
  · obtain ⟨c0, c1⟩ := hz.cells
    have eqn := ptr_eqC
    clear hz
    go_enter Tryz.func61, Tryz.ntmps61
    go_wp2
    go_returns
    exact ⟨rfl, rfl⟩
theorem n_atEnd (w : World) (cp : Option Addr) (h : NoAt w cp) : Calls Tryz.prog 40 #[.pointer cp] w fun e w' => e = .returned (.bool false) ∧ ∃ q, w' = w.drewN q := by
  have L := Lib.hid (n_last w cp h)
  have eqn := nil_neSp
  clear h
  go_enter Tryz.func40, Tryz.ntmps40
  go_wp2_with (go_at_call 61; (with_reducible refine L.out.mono ?_); rintro e w1 ⟨rfl, hw1⟩; obtain rfl := hw1.symm)
  go_quiet (fail)
  go_wp2
  go_returns
  exact ⟨rfl, _, rfl⟩
theorem n_at (w : World) (cp : Option Addr) (h : NoAt w cp) : Calls Tryz.prog 36 #[.pointer cp] w fun e w' => e = .returned (.int .i64 0) ∧ w' = w := by
  rcases h with rfl | ⟨z, rfl, hz⟩
  · have eqn := nil_eqC
    go_enter Tryz.func36, Tryz.ntmps36
    go_wp2
    go_returns
    exact ⟨rfl, rfl⟩
  · obtain ⟨c0, c1⟩ := hz.cells
    have eqn := ptr_eqC
    clear hz
    go_enter Tryz.func36, Tryz.ntmps36
    go_wp2
    go_returns
    exact ⟨rfl, rfl⟩
theorem n_up (w : World) (cp : Option Addr) (h : NoAt w cp) : Calls Tryz.prog 29 #[.pointer cp] w fun e w' => e = .returned (.bool false) ∧ Ext w w' := by
  have L := Lib.hid (n_last w cp h)
  have eqn := nil_eqSp
  clear h
  go_enter Tryz.func29, Tryz.ntmps29
  go_wp2_with (go_at_call 61; (with_reducible refine L.out.mono ?_); rintro e w1 ⟨rfl, hw1⟩; obtain rfl := hw1.symm)
  go_returns
  exact ⟨rfl, Below.refl _ _⟩
theorem n_next (w : World) (cp : Option Addr) (h : NoAt w cp) : Calls Tryz.prog 31 #[.pointer cp] w fun e w' => e = .returned (.bool false) ∧ Ext w w' := by
  have L := Lib.hid (n_last w cp h)
  have eqn := nil_eqSp
  clear h
  go_enter Tryz.func31, Tryz.ntmps31
  go_wp2_with (go_at_call 61; (with_reducible refine L.out.mono ?_); rintro e w1 ⟨rfl, hw1⟩; obtain rfl := hw1.symm)
  go_returns
  exact ⟨rfl, Below.refl _ _⟩
theorem n_seek (w : World) (cp : Option Addr) (t : ByteArray) (h : NoAt w cp) : Calls Tryz.prog 33 #[.pointer cp, .string t] w fun e w' => e = .returned (.bool false) ∧ Ext w w' := by
  have L := Lib.hid (n_last w cp h)
  have eqn := nil_eqSp
  clear h
  go_enter Tryz.func33, Tryz.ntmps33
  go_wp2_with (go_at_call 61; (with_reducible refine L.out.mono ?_); rintro e w1 ⟨rfl, hw1⟩; obtain rfl := hw1.symm)
  go_returns
  exact ⟨rfl, Below.refl _ _⟩
theorem n_key (w : World) (cp : Option Addr) (h : NoAt w cp) : Calls Tryz.prog 38 #[.pointer cp] w fun e w' => e = .returned (.string ⟨#[]⟩) ∧ Ext w w' := by
  have L := Lib.hid (n_last w cp h)
  have eqn := nil_eqSp
  clear h
  go_enter Tryz.func38, Tryz.ntmps38
  go_wp2_with (go_at_call 61; (with_reducible refine L.out.mono ?_); rintro e w1 ⟨rfl, hw1⟩; obtain rfl := hw1.symm)
  go_returns
  exact ⟨rfl, Below.refl _ _⟩
theorem n_keys (w : World) (cp : Option Addr) (h : NoAt w cp) : Calls Tryz.prog 35 #[.pointer cp] w fun e w' => e = .returned (.slice none 0 0) ∧ Ext w w' := by
  have L := Lib.hid (n_last w cp h)
  have eqn := nil_eqSp
  clear h
  go_enter Tryz.func35, Tryz.ntmps35
  go_wp2_with (go_at_call 61; (with_reducible refine L.out.mono ?_); rintro e w1 ⟨rfl, hw1⟩; obtain rfl := hw1.symm)
  go_returns
  exact ⟨rfl, Below.refl _ _⟩
set_option maxRecDepth 100000 in
theorem n_open (w : World) (cp : Option Addr) (h : NoAt w cp) : Calls Tryz.prog 27 #[.pointer cp] w fun e w' => e = .returned (.bool false) ∧ Ext w w' := by
  rcases h with rfl | ⟨z, rfl, hz⟩
  · have eqn := nil_eqC
    go_enter Tryz.func27, Tryz.ntmps27
    go_wp2
    go_quiet (fail)
    go_wp2
    go_returns
    exact ⟨rfl, ext_drewN (Below.refl _ _) _⟩
  · have AE : Hid (∀ q, Calls Tryz.prog 40 #[.pointer (some ⟨z, 0, none⟩)] (w.drewN q) fun e w' => e = .returned (.bool false) ∧ ∃ m, w' = (w.drewN q).drewN m) := fun q => n_atEnd _ _ (.inr ⟨z, rfl, hz.ext (ext_drewN (Below.refl _ _) q)⟩)
    have AT : Hid (∀ q, Calls Tryz.prog 36 #[.pointer (some ⟨z, 0, none⟩)] (w.drewN q) fun e w' => e = .returned (.int .i64 0) ∧ w' = w.drewN q) := fun q => n_at _ _ (.inr ⟨z, rfl, hz.ext (ext_drewN (Below.refl _ _) q)⟩)
    have DP : Hid (∀ q, Calls Tryz.prog 17 #[.pointer none] (w.drewN q) fun e w' => e = .returned (.int .i64 0) ∧ w' = w.drewN q) := fun q => c_depthNil _
    obtain ⟨c0, c1⟩ := hz.cells
    have eqn := ptr_eqC
    clear hz
    go_enter Tryz.func27, Tryz.ntmps27
    go_wp2
    go_quiet (first
      | (go_at_call 40; exact Calls.quiet_of (AE.out _))
      | (go_at_call 36; exact Calls.quiet_of_same (AT.out _))
      | (go_at_call 17; exact Calls.quiet_of_same (DP.out _)))
    go_wp2
    go_returns
    exact ⟨rfl, ext_drewN (Below.refl _ _) _⟩
set_option maxRecDepth 100000 in
theorem n_count (w : World) (cp : Option Addr) (h : NoAt w cp) : Calls Tryz.prog 43 #[.pointer cp] w fun e w' => e = .returned (.int .i64 0) ∧ Ext w w' := by
  have L := Lib.hid (n_last w cp h)
  have A := Lib.hid (n_atEnd w cp h)
  have eqs := nil_eqSp
  rcases h with rfl | ⟨z, rfl, hz⟩
  · have eqn := nil_eqC
    go_enter Tryz.func43, Tryz.ntmps43
    go_wp2_with (go_at_call 61; (with_reducible refine L.out.mono ?_); rintro e w1 ⟨rfl, hw1⟩; obtain rfl := hw1.symm)
    go_returns
    exact ⟨rfl, Below.refl _ _⟩
  · obtain ⟨c0, c1⟩ := hz.cells
    have eqn := ptr_eqC
    have C0 := Lib.hid c0
    clear hz c0 c1
    go_enter Tryz.func43, Tryz.ntmps43
    go_wp2_with (first
      | (go_at_call 61; (with_reducible refine L.out.mono ?_); rintro e w1 ⟨rfl, hw1⟩; obtain rfl := hw1.symm)
      | (go_at_call 40; (with_reducible refine A.out.mono ?_); rintro e w2 ⟨rfl, q, hq⟩; have E2 : Hid (Ext w w2) := (by show Ext _ _; rw [hq]; exact ext_drewN (Below.refl _ _) q); clear hq; have d0 := keep E2.out C0.out)
      | (go_at_call 16; (with_reducible refine (c_lenNil _).mono ?_); rintro e w3 ⟨rfl, hw3⟩; obtain rfl := hw3.symm))
    go_returns
    exact ⟨rfl, E2.out⟩
theorem m_at (w : World) : Calls Tryz.prog 37 #[.pointer none] w fun e w' => e = .returned (.int .i64 0) ∧ Ext w w' := by
  have eqn := nil_eqRC
  go_enter Tryz.func37, Tryz.ntmps37
  go_wp2
  go_returns
  exact ⟨rfl, Below.refl _ _⟩
theorem m_open (w : World) : Calls Tryz.prog 28 #[.pointer none] w fun e w' => e = .returned (.bool false) ∧ Ext w w' := by
  have eqn := nil_eqRC
  go_enter Tryz.func28, Tryz.ntmps28
  go_wp2
  go_quiet (fail)
  go_wp2
  go_returns
  exact ⟨rfl, ext_drewN (Below.refl _ _) _⟩
theorem m_up (w : World) : Calls Tryz.prog 30 #[.pointer none] w fun e w' => e = .returned (.bool false) ∧ Ext w w' := by
  have eqn := nil_eqRC
  go_enter Tryz.func30, Tryz.ntmps30
  go_wp2
  go_returns
  exact ⟨rfl, Below.refl _ _⟩
theorem m_next (w : World) : Calls Tryz.prog 32 #[.pointer none] w fun e w' => e = .returned (.bool false) ∧ Ext w w' := by
  have eqn := nil_eqRC
  go_enter Tryz.func32, Tryz.ntmps32
  go_wp2
  go_returns
  exact ⟨rfl, Below.refl _ _⟩
theorem m_seek (w : World) (t : ByteArray) : Calls Tryz.prog 34 #[.pointer none, .string t] w fun e w' => e = .returned (.bool false) ∧ Ext w w' := by
  have eqn := nil_eqRC
  go_enter Tryz.func34, Tryz.ntmps34
  go_wp2
  go_returns
  exact ⟨rfl, Below.refl _ _⟩
theorem m_key (w : World) : Calls Tryz.prog 39 #[.pointer none] w fun e w' => e = .returned (.string ⟨#[]⟩) ∧ Ext w w' := by
  have eqn := nil_eqRC
  go_enter Tryz.func39, Tryz.ntmps39
  go_wp2
  go_returns
  exact ⟨rfl, Below.refl _ _⟩
theorem m_atEnd (w : World) : Calls Tryz.prog 41 #[.pointer none] w fun e w' => e = .returned (.bool false) ∧ Ext w w' := by
  have eqn := nil_neRC
  go_enter Tryz.func41, Tryz.ntmps41
  go_wp2
  go_returns
  exact ⟨rfl, Below.refl _ _⟩
theorem m_keys (w : World) : Calls Tryz.prog 42 #[.pointer none] w fun e w' => e = .returned (.slice none 0 0) ∧ Ext w w' := by
  have eqn := nil_eqRC
  go_enter Tryz.func42, Tryz.ntmps42
  go_wp2
  go_returns
  exact ⟨rfl, Below.refl _ _⟩
theorem m_count (w : World) : Calls Tryz.prog 44 #[.pointer none] w fun e w' => e = .returned (.int .i64 0) ∧ Ext w w' := by
  have eqn := nil_eqRC
  go_enter Tryz.func44, Tryz.ntmps44
  go_wp2
  go_returns
  exact ⟨rfl, Below.refl _ _⟩
/-- Two cursors that are none, as a pair. -/
theorem pair_none {cp : Option Addr} {J : World → Prop} (hJ : ∀ W W', J W → Ext W W' → J W') (hN : ∀ W, J W → NoAt W cp) :
    PairC (X := Unit) cp none (fun _ _ S W => (∀ b, ¬ S b) ∧ J W) id id id (fun _ => id) (fun _ => false) (fun _ => false) (fun _ => false) (fun _ _ => false) (fun _ => 0) (fun _ => ⟨#[]⟩) (fun _ => false) (fun _ => []) (fun _ => 0) := by
  have pp : ∀ (x y : Unit) (S : Nat → Prop) (W w' : World), ((∀ b, ¬ S b) ∧ J W) → Ext W w' → PPost (fun (_ _ : Unit) S W => (∀ b, ¬ S b) ∧ J W) x y S W w' := fun x y S W w' h e => ⟨S, ⟨h.1, hJ _ _ h.2 e⟩, (ButS.refl _ _).ext e, fun b hb => .inl hb⟩
  have ks : ∀ (W w' : World) (e : Ending), (e = .returned (.slice none 0 0) ∧ Ext W w') → ∃ a n c, e = .returned (.slice a n c) ∧ w'.ownsRow W.heap.size 9 1 (.slice a n c) n (([] : List ByteArray).map Value.string) ∧ Ext W w' := fun W w' e h => ⟨none, 0, 0, h.1, World.ownsRow_nil _ _ _ _, h.2⟩
  exact ⟨fun x y S W W' h e => ⟨h.1, hJ _ _ h.2 e⟩, fun x y S W h b hb => absurd hb (h.1 b),
    fun x y S W h => (n_open W cp (hN W h.2)).mono fun e w' r => ⟨r.1, pp _ _ _ _ _ h r.2⟩, fun x y S W h => (n_up W cp (hN W h.2)).mono fun e w' r => ⟨r.1, pp _ _ _ _ _ h r.2⟩, fun x y S W h => (n_next W cp (hN W h.2)).mono fun e w' r => ⟨r.1, pp _ _ _ _ _ h r.2⟩, fun t x y S W h => (n_seek W cp t (hN W h.2)).mono fun e w' r => ⟨r.1, pp _ _ _ _ _ h r.2⟩,
    fun x y S W h => (m_open W).mono fun e w' r => ⟨r.1, pp _ _ _ _ _ h r.2⟩, fun x y S W h => (m_up W).mono fun e w' r => ⟨r.1, pp _ _ _ _ _ h r.2⟩, fun x y S W h => (m_next W).mono fun e w' r => ⟨r.1, pp _ _ _ _ _ h r.2⟩, fun t x y S W h => (m_seek W t).mono fun e w' r => ⟨r.1, pp _ _ _ _ _ h r.2⟩,
    fun x S W h => (n_at W cp (hN W h.2)).mono fun e w' r => ⟨r.1, by rw [r.2]; exact Below.refl _ _⟩, fun x S W h => m_at W, fun x S W h => n_key W cp (hN W h.2), fun x S W h => m_key W,
    fun x S W h => (n_atEnd W cp (hN W h.2)).mono fun e w' ⟨r, q, hq⟩ => ⟨r, by rw [hq]; exact ext_drewN (Below.refl _ _) q⟩, fun x S W h => m_atEnd W,
    fun x S W h => (n_keys W cp (hN W h.2)).mono fun e w' r => ks _ _ _ r, fun x S W h => (m_keys W).mono fun e w' r => ks _ _ _ r, fun x S W h => n_count W cp (hN W h.2), fun x S W h => m_count W⟩
end Go.Proofs.YthjpfplebbnbpaaGreat
namespace Go.Proofs.YthjpfplebbnbpaaGreat
open Go.ChangeShapes Go.WideShapes Go.ChangeAt Go.RowKit
theorem own_typed {w : World} {lo n sz : Nat} {e : TypeId} {v : Value} {xs : List Value} (h : w.ownsRow lo e sz v n xs) {b : Nat} (hb : v.ownBlock = some b) : ∃ cs x, w.heap[b]? = some (.cells cs e x) := by
  rcases h.2 with ⟨e1, _⟩ | ⟨g', c', cur, e1, _, hg', _⟩
  · rw [e1] at hb
    cases hb
  · rw [e1] at hb
    cases hb
    exact ⟨_, _, hg'⟩
theorem RCurV.notCur {w : World} {lo pc rt : Nat} {vL vI : Value} {vs : List Value} {ls : List RLv} (h : RCurV w lo pc rt vL vI vs ls) {b : Nat} (hb : RS pc vL vI vs b) : ¬ CurT w b := by
  rintro ⟨cs, t, x, hg, ht⟩
  have key : ∀ (cs' : Array Value) (e : TypeId) (x' : Nat × Nat), w.heap[b]? = some (.cells cs' e x') → e ≠ 35 → e ≠ 81 → False := fun cs' e x' h1 h2 h3 => by
    rw [h1] at hg
    cases hg
    rcases ht with ht | ht
    · exact h2 ht
    · exact h3 ht
  rcases hb with rfl | hb | hb | ⟨v, hv, hb⟩
  · exact key _ _ _ h.top (by decide) (by decide)
  · obtain ⟨cs', x', h1⟩ := own_typed h.rowL hb
    exact key _ _ _ h1 (by decide) (by decide)
  · obtain ⟨cs', x', h1⟩ := own_typed h.rowI hb
    exact key _ _ _ h1 (by decide) (by decide)
  · obtain ⟨i, hi⟩ := List.mem_iff_getElem?.1 hv
    obtain ⟨r, hr⟩ : ∃ r, (ls.map (·.1))[i]? = some r := ⟨_, List.getElem?_eq_getElem (by have := (List.getElem?_eq_some_iff.1 hi).1; have := h.rows.1; omega)⟩
    obtain ⟨cs', x', h1⟩ := own_typed (h.rows.2 i r v hr hi) hb
    exact key _ _ _ h1 (by decide) (by decide)
section
variable {lo pt rt d : Nat} {ways : List (List ByteArray)}
/-- The pair: the program's cursor at x, the document's at y; their blocks. -/
def DuoAt (ways : List (List ByteArray)) (lo pt rt pc rc : Nat) (x y : List (Nat × Nat)) (S : Nat → Prop) (W : World) : Prop := ∃ rb vL vI vs, CurV W lo pc pt rb x ∧ RCurV W lo rc rt vL vI vs (lsOf ways y) ∧ ∀ b, S b ↔ (CurB pc rb b ∨ RS rc vL vI vs b)
theorem CurV.lowB {w : World} {lo pc pt : Nat} {rb : Option Nat} {sp : List (Nat × Nat)} (h : CurV w lo pc pt rb sp) {b : Nat} (hb : CurB pc rb b) : lo ≤ b ∧ b < w.heap.size := by
  rcases hb with rfl | hb
  · obtain ⟨_, _, _, _, _, h1, _⟩ := h.cells
    exact ⟨h.lo, h1⟩
  · exact (h.ne hb).2
theorem DuoAt.low {pc rc : Nat} {x y : List (Nat × Nat)} {S : Nat → Prop} {W : World} (h : DuoAt ways lo pt rt pc rc x y S W) {b : Nat} (hb : S b) : lo ≤ b ∧ b < W.heap.size := by
  obtain ⟨rb, vL, vI, vs, h1, h2, h3⟩ := h
  rcases (h3 b).1 hb with hb | hb
  · exact h1.lowB hb
  · exact h2.low hb
theorem DuoAt.ext {pc rc : Nat} {x y : List (Nat × Nat)} {S : Nat → Prop} {W W' : World} (h : DuoAt ways lo pt rt pc rc x y S W) (e : Ext W W') : DuoAt ways lo pt rt pc rc x y S W' := by
  obtain ⟨rb, vL, vI, vs, h1, h2, h3⟩ := h
  exact ⟨rb, vL, vI, vs, h1.ext e, h2.ext e, h3⟩
theorem DuoAt.but {pc rc : Nat} {x y : List (Nat × Nat)} {S T : Nat → Prop} {W W' : World} (h : DuoAt ways lo pt rt pc rc x y S W) (e : ButS T W W') (hs : ∀ b, S b → ¬ T b) : DuoAt ways lo pt rt pc rc x y S W' := by
  obtain ⟨rb, vL, vI, vs, h1, h2, h3⟩ := h
  exact ⟨rb, vL, vI, vs, h1.buts e (fun b hb => hs b ((h3 b).2 (.inl hb))), h2.but e (fun b hb => hs b ((h3 b).2 (.inr hb))), h3⟩
/-- A pair beside another one. -/
structure DuoI (w4 : World) (d : Nat) (ways : List (List ByteArray)) (pt rt pc rc pc' rc' : Nat) (z x y : List (Nat × Nat)) (S : Nat → Prop) (W : World) : Prop where
  ext : Ext w4 W
  okx : CurOk d ways x
  oky : CurOk d ways y
  okz : CurOk d ways z
  duo : DuoAt ways w4.heap.size pt rt pc rc x y S W
  oth : ∃ S2, DuoAt ways w4.heap.size pt rt pc' rc' z z S2 W ∧ ∀ b, S b → ¬ S2 b
variable {w4 : World} {rb : Option Nat} {pc rc pc' rc' : Nat} {z x y : List (Nat × Nat)} {S : Nat → Prop} {W : World}
theorem DuoI.grow {W' : World} (h : DuoI w4 d ways pt rt pc rc pc' rc' z x y S W) (e : Ext W W') : DuoI w4 d ways pt rt pc rc pc' rc' z x y S W' := by
  obtain ⟨S2, o1, o2⟩ := h.oth
  exact ⟨ext_trans h.ext e, h.okx, h.oky, h.okz, h.duo.ext e, S2, o1.ext e, o2⟩
/-- What both kinds of calls leave. -/
theorem DuoI.goes {x' y' : List (Nat × Nat)} {S' T : Nat → Prop} {W' : World} (h : DuoI w4 d ways pt rt pc rc pc' rc' z x y S W) (kx : CurOk d ways x') (ky : CurOk d ways y') (hd : DuoAt ways w4.heap.size pt rt pc rc x' y' S' W') (hb : ButS T W W') (hT : ∀ b, T b → S b) (hS : ∀ b, S' b → S b ∨ W.heap.size ≤ b) : PPost (fun x y S W => DuoI w4 d ways pt rt pc rc pc' rc' z x y S W) x' y' S W W' := by
  obtain ⟨S2, o1, o2⟩ := h.oth
  have hb2 : ButS S W W' := hb.mono (fun b _ ht => hT b ht)
  refine ⟨S', ⟨ext_of_but h.ext hb2 (fun b h1 h2 => by have := (h.duo.low h2).1; omega), kx, ky, h.okz, hd, S2, o1.but hb2 (fun b h1 h2 => o2 b h2 h1), fun b h1 h2 => ?_⟩, hb2, hS⟩
  rcases hS b h1 with h3 | h3
  · exact o2 b h3 h2
  · have := (o1.low h2).2
    omega
theorem DuoI.prog {x' : List (Nat × Nat)} {b : Bool} (h : DuoI w4 d ways pt rt pc rc pc' rc' z x y S W) (kx : CurOk d ways x') {f : FuncId} {args : Array Value} (hc : ∀ rb, CurV W w4.heap.size pc pt rb x → Calls Tryz.prog f args W (StepPost w4.heap.size pc pt rb x' b W)) : Calls Tryz.prog f args W fun e w' => e = .returned (.bool b) ∧ PPost (fun x y S W => DuoI w4 d ways pt rt pc rc pc' rc' z x y S W) x' y S W w' := by
  obtain ⟨rb, vL, vI, vs, h1, h2, h3⟩ := h.duo
  refine (hc rb h1).mono fun e w' ⟨rb', r1, r2, r3, r4⟩ => ⟨r1, ?_⟩
  have r5 : RCurV w' w4.heap.size rc rt vL vI vs (lsOf ways y) := h2.but r3 (fun k hk hk2 => h2.notCur hk (h1.typed k hk2))
  refine h.goes kx h.oky ⟨rb', vL, vI, vs, r2, r5, fun k => Iff.rfl⟩ r3 (fun k hk => (h3 k).2 (.inl hk)) (fun k hk => ?_)
  rcases hk with (hk | hk) | hk
  · exact .inl ((h3 k).2 (.inl (.inl hk)))
  · rcases r4 k hk with h5 | h5
    · exact .inl ((h3 k).2 (.inl (.inr h5)))
    · exact .inr h5
  · exact .inl ((h3 k).2 (.inr hk))
theorem DuoI.doc {y' : List (Nat × Nat)} {b : Bool} (h : DuoI w4 d ways pt rt pc rc pc' rc' z x y S W) (ky : CurOk d ways y') {f : FuncId} {args : Array Value} (hc : ∀ vL vI vs, RCurV W w4.heap.size rc rt vL vI vs (lsOf ways y) → Calls Tryz.prog f args W fun e w' => e = .returned (.bool b) ∧ RCurP w4.heap.size rc rt vL vI vs (lsOf ways y') W w') : Calls Tryz.prog f args W fun e w' => e = .returned (.bool b) ∧ PPost (fun x y S W => DuoI w4 d ways pt rt pc rc pc' rc' z x y S W) x y' S W w' := by
  obtain ⟨rb, vL, vI, vs, h1, h2, h3⟩ := h.duo
  refine (hc vL vI vs h2).mono fun e w' ⟨r1, vL', vI', vs', r2, r3, r4⟩ => ⟨r1, ?_⟩
  have r5 : CurV w' w4.heap.size pc pt rb x := h1.buts r3 (fun k hk hk2 => h2.notCur hk2 (h1.typed k hk))
  refine h.goes h.okx ky ⟨rb, vL', vI', vs', r5, r2, fun k => Iff.rfl⟩ r3 (fun k hk => (h3 k).2 (.inr hk)) (fun k hk => ?_)
  rcases hk with hk | hk
  · exact .inl ((h3 k).2 (.inl hk))
  · rcases r4 k hk with h5 | h5
    · exact .inl ((h3 k).2 (.inr h5))
    · exact .inr h5
theorem c_keyX (h : CurV W lo pc pt rb x) (ht : TrieV W pt d ways) (hw : Ways d ways) (hc : CurOk d ways x) : Calls Tryz.prog 38 #[.pointer (some ⟨pc, 0, none⟩)] W fun e w' => e = .returned (.string (rkey (lsOf ways x))) ∧ Ext W w' := by
  rcases snoc_cases x with rfl | ⟨pre, ⟨f, t⟩, rfl⟩
  · exact c_key_no pc pt lo rb [] W h (.inl rfl)
  · obtain ⟨A, B, hs, F, e, hl, hge⟩ := (hc.lv hw).ok
    have hle := F.le
    rw [lsOf_snoc, e, rkey_snoc]
    by_cases hft : f = t
    · rw [List.getElem?_eq_none (by omega)]
      exact c_key_no pc pt lo rb _ W h (.inr (by rw [endB_snoc, decide_eq_true hft]))
    · rw [lv_key F (by omega)]
      obtain ⟨g, c, rfl, _⟩ := h.last
      exact c_key pc pt lo g d ways pre f t A B W h ht F (by omega)
theorem c_keysX (h : CurV W lo pc pt rb x) (ht : TrieV W pt d ways) (hw : Ways d ways) (hc : CurOk d ways x) (hd : d ≤ 64) : Calls Tryz.prog 35 #[.pointer (some ⟨pc, 0, none⟩)] W fun e w' => ∃ a n c, e = .returned (.slice a n c) ∧ w'.ownsRow W.heap.size 9 1 (.slice a n c) n ((if rend (lsOf ways x) = true then [] else rkeys (lsOf ways x)).map Value.string) ∧ Ext W w' := by
  rw [rend_lsOf hw hc]
  cases he : endB x with
  | true =>
    rw [if_pos rfl]
    exact (c_keys_no pc pt lo rb x W h (.inr he)).mono fun e w' ⟨a, n, c, h1, h2, h3, _⟩ => ⟨a, n, c, h1, h2, h3⟩
  | false =>
    rw [if_neg (by simp), rkeys_lsOf hw _ x rfl hc he]
    by_cases hx : x = []
    · subst hx
      exact (c_keys_no pc pt lo rb [] W h (.inl rfl)).mono fun e w' ⟨a, n, c, h1, h2, h3, _⟩ => ⟨a, n, c, h1, h2, h3⟩
    · obtain ⟨A, B, hs⟩ := hc.st hx
      exact (c_keys pc pt lo d ways rb x A B W h ht hw hs he hd (hc.len hw)).mono fun e w' ⟨a, n, c, h1, h2, h3, _⟩ => ⟨a, n, c, h1, h2, h3⟩
theorem countP_nil (ways : List (List ByteArray)) : countP ways [] = ways.length := by
  unfold countP
  simp
theorem c_countX (h : CurV W lo pc pt rb x) (ht : TrieV W pt d ways) (hw : Ways d ways) (hc : CurOk d ways x) (hd : d ≤ 64) (hn : ways.length ≤ 1000000) : Calls Tryz.prog 43 #[.pointer (some ⟨pc, 0, none⟩)] W fun e w' => e = .returned (.int .i64 ((if rend (lsOf ways x) = true then 0 else countP ways (rkeys (lsOf ways x)) : Nat) : Int)) ∧ Ext W w' := by
  rw [rend_lsOf hw hc]
  cases he : endB x with
  | true =>
    rw [if_pos rfl]
    exact c_countC_end pc pt lo rb x W h he
  | false =>
    rw [if_neg (by simp), rkeys_lsOf hw _ x rfl hc he]
    rcases snoc_cases x with rfl | ⟨pre, ⟨f, t⟩, rfl⟩
    · have : keysOf ways [] = [] := rfl
      rw [this, countP_nil]
      exact c_countC_nil pc pt lo d ways rb W h ht
    · obtain ⟨A, B, hs, F, e, hl, hge⟩ := (hc.lv hw).ok
      have hle := F.le
      rw [endB_snoc] at he
      have hft : f ≠ t := by simpa using he
      rw [(F.count hw (by omega)).1]
      obtain ⟨g, c, rfl, _⟩ := h.last
      exact c_countC pc pt lo g d ways pre f t A B W h ht hw F (by omega) hd hn
/-- A cursor and the document's: a pair that tells the same. -/
theorem pair_duo (ht : TrieV w4 pt d ways) (hr : RTrie w4 lo rt d ways) (hw : Ways d ways) (hd : d ≤ 64) (hn : ways.length ≤ 1000000) :
    PairC (some ⟨pc, 0, none⟩) (some ⟨rc, 0, none⟩) (fun x y S W => DuoI w4 d ways pt rt pc rc pc' rc' z x y S W) (openM d ways) List.dropLast nextM (fun t x => seekM ways x t) (mayOpen d ways) (fun x => !x.isEmpty) nextB (fun t x => seekB ways x t) List.length (fun x => rkey (lsOf ways x)) endB (fun x => if rend (lsOf ways x) = true then [] else rkeys (lsOf ways x)) (fun x => if rend (lsOf ways x) = true then 0 else countP ways (rkeys (lsOf ways x))) :=
  ⟨fun x y S W W' h e => h.grow e, fun x y S W h b hb => (h.duo.low hb).2,
   fun x y S W h => h.prog (h.okx.opened hw) fun rb hv => s_open hv (ht.ext h.ext) hw h.okx hd hn,
   fun x y S W h => h.prog h.okx.upped fun rb hv => s_up hv,
   fun x y S W h => h.prog (h.okx.nexted hw) fun rb hv => s_next hv hw h.okx hn,
   fun t x y S W h => h.prog (h.okx.seeked hw t) fun rb hv => s_seek t hv (ht.ext h.ext) hw h.okx hn,
   fun x y S W h => h.doc (h.oky.opened hw) fun vL vI vs hv => r_open hv (hr.ext h.ext) hw h.oky hd hn h.ext.size,
   fun x y S W h => h.doc h.oky.upped fun vL vI vs hv => r_up hv hw h.oky hd,
   fun x y S W h => h.doc (h.oky.nexted hw) fun vL vI vs hv => r_next hv hw h.oky hd hn,
   fun t x y S W h => h.doc (h.oky.seeked hw t) fun vL vI vs hv => r_seek t hv hw h.oky hd hn,
   fun x S W h => by obtain ⟨rb, vL, vI, vs, h1, h2, _⟩ := h.duo; exact (c_at _ _ _ _ _ W h1).mono fun e w' ⟨r1, r2⟩ => ⟨r1, by rw [r2]; exact Below.refl _ _⟩,
   fun x S W h => by obtain ⟨rb, vL, vI, vs, h1, h2, _⟩ := h.duo; exact (c_rAt _ _ _ _ _ _ _ W h2).mono fun e w' ⟨r1, r2⟩ => ⟨by rw [r1, lsOf_len], by rw [r2]; exact Below.refl _ _⟩,
   fun x S W h => by obtain ⟨rb, vL, vI, vs, h1, h2, _⟩ := h.duo; exact c_keyX h1 (ht.ext h.ext) hw h.okx,
   fun x S W h => by obtain ⟨rb, vL, vI, vs, h1, h2, _⟩ := h.duo; exact c_rKey _ _ _ _ _ _ _ W h2 (by rw [lsOf_len]; have := h.okx.len hw; omega) (lsOf_in hw _ x rfl h.okx).1,
   fun x S W h => by obtain ⟨rb, vL, vI, vs, h1, h2, _⟩ := h.duo; exact (c_atEnd _ _ _ _ _ W h1).mono fun e w' ⟨r1, q, hq⟩ => ⟨r1, by rw [hq]; exact ext_drewN (Below.refl _ _) q⟩,
   fun x S W h => by obtain ⟨rb, vL, vI, vs, h1, h2, _⟩ := h.duo; exact (c_rAtEnd _ _ _ _ _ _ _ W h2 (by rw [lsOf_len]; have := h.okx.len hw; omega)).mono fun e w' ⟨r1, r2⟩ => ⟨by rw [r1, rend_lsOf hw h.okx], r2⟩,
   fun x S W h => by obtain ⟨rb, vL, vI, vs, h1, h2, _⟩ := h.duo; exact c_keysX h1 (ht.ext h.ext) hw h.okx hd,
   fun x S W h => by obtain ⟨rb, vL, vI, vs, h1, h2, _⟩ := h.duo; exact c_rKeys _ _ _ _ _ _ _ W h2 (by rw [lsOf_len]; have := h.okx.len hw; omega) (fun he => (lsOf_in hw _ x rfl h.okx).2 (by rw [← rend_lsOf hw h.okx]; exact he)),
   fun x S W h => by obtain ⟨rb, vL, vI, vs, h1, h2, _⟩ := h.duo; exact c_countX h1 (ht.ext h.ext) hw h.okx hd hn,
   fun x S W h => by obtain ⟨rb, vL, vI, vs, h1, h2, _⟩ := h.duo; exact c_rCount _ _ _ _ _ _ _ _ _ _ W h2 (hr.ext h.ext) (by rw [lsOf_len]; have := h.okx.len hw; omega) (fun he => (lsOf_in hw _ x rfl h.okx).2 (by rw [← rend_lsOf hw h.okx]; exact he)) hn⟩
end
end Go.Proofs.YthjpfplebbnbpaaGreat
