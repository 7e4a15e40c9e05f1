/- The walk of the law TrieWalks: whatever the rows, the order and the script, it returns true, and nothing old is touched. -/
import Derived.Test.YthjpfplebbnbpaaGreatBuilt
import Derived.Test.YthjpfplebbnbpaaGreatPrs
import Derived.Test.YthjpfplebbnbpaaGreatOpo
namespace Go.Proofs.YthjpfplebbnbpaaGreat
open Go.ChangeShapes Go.WideShapes Go.ChangeAt Go.RowKit
/-- Both pairs, each at one state. -/
def TwoAt (w4 : World) (d : Nat) (ways : List (List ByteArray)) (pt rt pc rc pc' rc' : Nat) (W : World) : Prop := ∃ z x S, DuoI w4 d ways pt rt pc rc pc' rc' z x x S W
theorem TwoAt.ext {w4 : World} {d : Nat} {ways : List (List ByteArray)} {pt rt pc rc pc' rc' : Nat} {W W' : World} (h : TwoAt w4 d ways pt rt pc rc pc' rc' W) (e : Ext W W') : TwoAt w4 d ways pt rt pc rc pc' rc' W' := by
  obtain ⟨z, x, S, h⟩ := h
  exact ⟨z, x, S, h.grow e⟩
theorem TwoAt.old {w4 : World} {d : Nat} {ways : List (List ByteArray)} {pt rt pc rc pc' rc' : Nat} {W : World} (h : TwoAt w4 d ways pt rt pc rc pc' rc' W) : Ext w4 W := by
  obtain ⟨z, x, S, h⟩ := h
  exact h.ext
theorem TwoAt.turn {w4 : World} {d : Nat} {ways : List (List ByteArray)} {pt rt pc rc pc' rc' : Nat} {W : World} (h : TwoAt w4 d ways pt rt pc rc pc' rc' W) : TwoAt w4 d ways pt rt pc' rc' pc rc W := by
  obtain ⟨z, x, S, h⟩ := h
  obtain ⟨S2, o1, o2⟩ := h.oth
  exact ⟨x, z, S2, h.ext, h.okz, h.okz, h.okx, o1, S, h.duo, fun b h1 h2 => o2 b h2 h1⟩
/-- One step of one pair. -/
theorem TwoAt.step {w4 : World} {lo d : Nat} {ways : List (List ByteArray)} {pt rt pc rc pc' rc' : Nat} {W : World} (h : TwoAt w4 d ways pt rt pc rc pc' rc' W) (ht : TrieV w4 pt d ways) (hr : RTrie w4 lo rt d ways) (hw : Ways d ways) (hd : d ≤ 64) (hn : ways.length ≤ 1000000) (kd wh : Int) (tx : ByteArray) :
    Calls Tryz.prog 8 #[.pointer (some ⟨pc, 0, none⟩), .pointer (some ⟨rc, 0, none⟩), .agg #[.int .i64 kd, .int .i64 wh, .string tx]] W fun e w' => e = .returned (.bool true) ∧ TwoAt w4 d ways pt rt pc rc pc' rc' w' := by
  obtain ⟨z, x, S, h⟩ := h
  exact (c_step (pair_duo (pc := pc) (rc := rc) (pc' := pc') (rc' := rc') (z := z) ht hr hw hd hn) x S kd wh tx W h).mono fun e w' ⟨r1, S', r2⟩ => ⟨r1, z, _, S', r2⟩
/-- One step of a pair that is none. -/
theorem TwoAt.none {w4 : World} {d : Nat} {ways : List (List ByteArray)} {pt rt pc rc pc' rc' : Nat} {W : World} (h : TwoAt w4 d ways pt rt pc rc pc' rc' W) {cp : Option Addr} (hc : NoAt w4 cp) (kd wh : Int) (tx : ByteArray) :
    Calls Tryz.prog 8 #[.pointer cp, .pointer none, .agg #[.int .i64 kd, .int .i64 wh, .string tx]] W fun e w' => e = .returned (.bool true) ∧ TwoAt w4 d ways pt rt pc rc pc' rc' w' :=
  (c_step (pair_none (cp := cp) (J := fun W => TwoAt w4 d ways pt rt pc rc pc' rc' W) (fun _ _ h e => h.ext e) (fun _ h => hc.ext h.old)) () (fun _ => False) kd wh tx W ⟨fun _ h => h, h⟩).mono fun _ _ ⟨r1, _, r2⟩ => ⟨r1, r2.2⟩
/-- A new cursor of the document's. -/
theorem rcur_new (w : World) (lo rt : Nat) (ways : List (List ByteArray)) (hlo : lo ≤ w.heap.size) : RCurV (w.alloc (.cells #[.pointer (some ⟨rt, 0, none⟩), .slice none 0 0, .slice none 0 0] 39)) lo w.heap.size rt (.slice none 0 0) (.slice none 0 0) [] (lsOf ways []) :=
  ⟨heap_alloc_new w _, World.ownsRow_nil _ _ _ _, ⟨rfl, fun i r v h => by simp [lsOf] at h⟩, World.ownsRow_nil _ _ _ _, hlo⟩
set_option maxRecDepth 100000 in
set_option maxHeartbeats 8000000 in
theorem c_trieWalks (x : CaseV) (rows : List (List ByteArray)) (os : List Int) (ops : List OpM) (so : Option Addr) (sn sc : Nat) (w : World) (h : CaseAt w x rows os) (hs : OpsAt w so sn ops) :
    Calls Tryz.prog 3 #[x.v, .slice so sn sc] w fun e w' => e = .returned (.bool true) ∧ Ext w w' := by
  have GR : Hid (∀ w1, Calls Tryz.prog 5 #[x.v] w1 fun e w' => e = .returned (.bool (decide (400 < x.rn))) ∧ Ext w1 w') := fun w1 => c_great x w1
  have HC := Lib.hid h
  have HS := Lib.hid hs
  have hsn : sn ≤ 9223372036854775807 := hs.1
  by_cases hg : 400 < x.rn ∨ 400 < sn
  · obtain ⟨g, hgg⟩ : ∃ g, decide (400 < x.rn) = g := ⟨_, rfl⟩
    rw [hgg] at GR
    have hgs : g = false → (400 : Int) < (sn : Int) := fun e => by
      rw [e] at hgg
      have := of_decide_eq_false hgg
      omega
    obtain ⟨ar0, ra, rn, rc, oa, on, oc⟩ := x
    unfold CaseV.v at GR ⊢
    dsimp only at GR ⊢
    clear h hs hg hgg
    cases g with
    | true =>
      clear hgs
      go_enter Tryz.func3, Tryz.ntmps3
      go_wp2_with (go_at_call 5; (with_reducible refine (GR.out _).mono ?_); rintro e w2 ⟨rfl, E2⟩)
      go_returns
      exact ⟨rfl, ext_trans (ext_alloc (Below.refl _ _) _) E2⟩
    | false =>
      have hsi := hgs rfl
      clear hgs
      go_enter Tryz.func3, Tryz.ntmps3
      go_wp2_with (go_at_call 5; (with_reducible refine (GR.out _).mono ?_); rintro e w2 ⟨rfl, E2⟩)
      go_returns
      exact ⟨rfl, ext_trans (ext_alloc (Below.refl _ _) _) E2⟩
  · have hg2 : x.rn ≤ 400 := by omega
    have hsn4 : sn ≤ 400 := by omega
    have hsi : ¬ (400 : Int) < (sn : Int) := by omega
    rw [decide_eq_false (by omega : ¬ 400 < x.rn)] at GR
    have BL : Hid (∀ w1, Ext w w1 → Calls Tryz.prog 6 #[x.v] w1 (BuiltPost os w1)) := fun w1 h1 => c_built x rows os w1 (HC.out.keep h1) hg2
    obtain ⟨ar0, ra, rn, rc, oa, on, oc⟩ := x
    unfold CaseV.v at GR BL ⊢
    dsimp only at GR BL ⊢
    clear h hs hg hg2
    go_enter Tryz.func3, Tryz.ntmps3
    go_upto_region 3 with (go_at_call 5; (with_reducible refine (GR.out _).mono ?_); rintro e w1 ⟨rfl, E1⟩)
    refine wp_gen (fun W1 hW1 => ?_)
    have e1 : Ext w W1 := by rw [hW1]; exact ext_trans (ext_alloc (Below.refl _ _) _) E1
    have x0 : W1.cell? ⟨w.heap.size, 0, none⟩ = some (.int .i64 ar0) := by rw [hW1]; exact keep E1 (by go_simp)
    have x1 : W1.cell? ⟨w.heap.size, 1, none⟩ = some (.slice ra rn rc) := by rw [hW1]; exact keep E1 (by go_simp)
    have x2 : W1.cell? ⟨w.heap.size, 2, none⟩ = some (.slice oa on oc) := by rw [hW1]; exact keep E1 (by go_simp)
    have B1 := Lib.hid (BL.out W1 e1)
    have EW1 := Lib.hid e1
    clear hW1 E1 e1 BL GR
    have eqc := nil_eqC
    have eqt := nil_eqRT
    have eqd := ptr_eqC
    have equ := ptr_eqRT
    go_upto_region 4 with (go_at_call 6; (with_reducible refine B1.out.mono ?_); rintro e w3 ⟨E3, (rfl | ⟨pt, rt, lo, ways, rfl, hd64, tv, rv, hlo, hw, hN⟩)⟩)
    · clear eqd equ
      go_wp2_with (go_at_call 7; (with_reducible refine (c_walkNil _).mono ?_); rintro e w8 ⟨rfl, hw8⟩; obtain rfl := hw8.symm)
      go_returns
      exact ⟨rfl, ext_trans EW1.out (ext_alloc E3 _)⟩
    · have TV := Lib.hid tv
      have RV := Lib.hid rv
      have HW := Lib.hid hw
      have EW3 : Hid (Ext w w3) := ext_trans EW1.out E3
      obtain ⟨d, hdd⟩ : ∃ d, os.length = d := ⟨_, rfl⟩
      rw [hdd] at TV RV HW hd64
      clear tv rv hw hlo E3 EW1 B1 x0 x1 x2 hdd HC
      go_upto_region 9 with (fail)
      refine wp_gen (fun W7 hW7 => ?_)
      have E7 : Ext w3 W7 := by rw [hW7]; exact ext_alloc (Below.refl _ _) _
      have Z7 : Hid (ZeroAt W7 w3.heap.size) := by
        show W7.heap[w3.heap.size]? = _
        rw [hW7]
        exact heap_alloc_new w3 _
      have TV7 := Lib.hid (TV.out.ext E7)
      have RV7 := Lib.hid (RV.out.ext E7)
      have EW7 : Hid (Ext w W7) := ext_trans EW3.out E7
      obtain ⟨z, hz⟩ : ∃ z, w3.heap.size = z := ⟨_, rfl⟩
      rw [hz] at Z7 ⊢
      clear hW7 E7 hz TV RV EW3
      have WK : Hid (∀ W, Ext W7 W → Calls Tryz.prog 7 #[.pointer (some ⟨pt, 0, none⟩)] W fun e w' => e = .returned (.pointer (some ⟨W.heap.size, 0, none⟩)) ∧ CurV w' W7.heap.size W.heap.size pt none [] ∧ Ext W w') := fun W hW => c_walk pt d ways W7.heap.size W (TV7.out.ext hW) hW.size
      go_upto_region 17 with (first
        | ((go_at_call 7; (with_reducible refine (WK.out _ (Below.refl _ _)).mono ?_); rintro e w8 ⟨rfl, cv8, E8⟩))
        | ((go_at_call 7; (with_reducible refine (WK.out _ E8).mono ?_); rintro e w9 ⟨rfl, cv9, E9⟩)))
      refine wp_gen (fun W17 hW17 => ?_)
      have TWO : Hid (TwoAt W7 d ways pt rt W7.heap.size w9.heap.size w8.heap.size (w9.heap.size + 1) W17) := by
        have z8 : W7.heap.size < w8.heap.size := (cv8.lowB (.inl rfl)).2
        have z9 : w8.heap.size < w9.heap.size := (cv9.lowB (.inl rfl)).2
        have eA : Ext w9 (w9.alloc (.cells #[.pointer (some ⟨rt, 0, none⟩), .slice none 0 0, .slice none 0 0] 39)) := ext_alloc (Below.refl _ _) _
        have eB : Ext (w9.alloc (.cells #[.pointer (some ⟨rt, 0, none⟩), .slice none 0 0, .slice none 0 0] 39)) W17 := by rw [hW17]; exact ext_alloc (Below.refl _ _) _
        have r1 := (rcur_new w9 W7.heap.size rt ways (by omega)).ext eB
        have r2 := rcur_new (w9.alloc (.cells #[.pointer (some ⟨rt, 0, none⟩), .slice none 0 0, .slice none 0 0] 39)) W7.heap.size rt ways (by simp; omega)
        rw [← hW17, World.size_alloc] at r2
        refine ⟨[], [], fun b => CurB W7.heap.size none b ∨ RS w9.heap.size (.slice none 0 0) (.slice none 0 0) [] b, ext_trans E8 (ext_trans E9 (ext_trans eA eB)), .inl rfl, .inl rfl, .inl rfl, ⟨none, _, _, _, cv8.ext (ext_trans E9 (ext_trans eA eB)), r1, fun b => Iff.rfl⟩, fun b => CurB w8.heap.size none b ∨ RS (w9.heap.size + 1) (.slice none 0 0) (.slice none 0 0) [] b, ⟨none, _, _, _, cv9.ext (ext_trans eA eB), r2, fun b => Iff.rfl⟩, fun b h1 h2 => ?_⟩
        have e1 : b = W7.heap.size ∨ b = w9.heap.size := by
          rcases h1 with (h | h) | h | h | h | ⟨v, hv, h⟩
          · exact .inl h
          · cases h
          · exact .inr h
          · cases h
          · cases h
          · cases hv
        have e2 : b = w8.heap.size ∨ b = w9.heap.size + 1 := by
          rcases h2 with (h | h) | h | h | h | ⟨v, hv, h⟩
          · exact .inl h
          · cases h
          · exact .inr h
          · cases h
          · cases h
          · cases hv
        omega
      obtain ⟨pc, hpc⟩ : ∃ b, W7.heap.size = b := ⟨_, rfl⟩
      obtain ⟨pc', hpc'⟩ : ∃ b, w8.heap.size = b := ⟨_, rfl⟩
      obtain ⟨rc, hrc⟩ : ∃ b, w9.heap.size = b := ⟨_, rfl⟩
      rw [hpc, hpc', hrc] at TWO
      clear hW17 cv8 cv9 E8 E9 WK
      rw [hrc]
      rw [hpc, hpc'] 
      have SA : Hid (∀ W kd wh tx, TwoAt W7 d ways pt rt pc rc pc' (rc + 1) W → Calls Tryz.prog 8 #[.pointer none, .pointer none, .agg #[.int .i64 kd, .int .i64 wh, .string tx]] W fun e w' => e = .returned (.bool true) ∧ TwoAt W7 d ways pt rt pc rc pc' (rc + 1) w') := fun W kd wh tx h => h.none (.inl rfl) kd wh tx
      have SB : Hid (∀ W kd wh tx, TwoAt W7 d ways pt rt pc rc pc' (rc + 1) W → Calls Tryz.prog 8 #[.pointer (some ⟨z, 0, none⟩), .pointer none, .agg #[.int .i64 kd, .int .i64 wh, .string tx]] W fun e w' => e = .returned (.bool true) ∧ TwoAt W7 d ways pt rt pc rc pc' (rc + 1) w') := fun W kd wh tx h => h.none (.inr ⟨z, rfl, Z7.out⟩) kd wh tx
      have SC : Hid (∀ W kd wh tx, TwoAt W7 d ways pt rt pc rc pc' (rc + 1) W → Calls Tryz.prog 8 #[.pointer (some ⟨pc, 0, none⟩), .pointer (some ⟨rc, 0, none⟩), .agg #[.int .i64 kd, .int .i64 wh, .string tx]] W fun e w' => e = .returned (.bool true) ∧ TwoAt W7 d ways pt rt pc rc pc' (rc + 1) w') := fun W kd wh tx h => h.step TV7.out RV7.out HW.out hd64 (by omega) kd wh tx
      have SD : Hid (∀ W kd wh tx, TwoAt W7 d ways pt rt pc rc pc' (rc + 1) W → Calls Tryz.prog 8 #[.pointer (some ⟨pc', 0, none⟩), .pointer (some ⟨rc + 1, 0, none⟩), .agg #[.int .i64 kd, .int .i64 wh, .string tx]] W fun e w' => e = .returned (.bool true) ∧ TwoAt W7 d ways pt rt pc rc pc' (rc + 1) w') := fun W kd wh tx h => (h.turn.step TV7.out RV7.out HW.out hd64 (by omega) kd wh tx).mono fun e w' ⟨r1, r2⟩ => ⟨r1, r2.turn⟩
      clear eqc eqt eqd equ hpc hpc' hrc
      go_wp2
      go_loopw [15] (fun v wj => ∃ i : Nat, i ≤ sn ∧ v = .int .i64 (i : Int) ∧ TwoAt W7 d ways pt rt pc rc pc' (rc + 1) wj) (fun v _ => sn - (intOf v).toNat)
      case atStart => exact ⟨0, Nat.zero_le _, rfl, TWO.out⟩
      case round =>
        obtain ⟨i, hi, rfl, hT⟩ := hrel
        have HT := Lib.hid hT
        have hex : Ext w wr := ext_trans EW7.out hT.old
        clear hT
        by_cases hlt : i < sn
        · have hlti : (i : Int) < (sn : Int) := by omega
          obtain ⟨o, b1, o1, hx, rfl, g1, g2, g3⟩ := (HS.out.keep hex).2.at hlt
          have OC : Hid (∀ W, TwoAt W7 d ways pt rt pc rc pc' (rc + 1) W → W.cell? ⟨b1, o1 + i * 3, none⟩ = some (.int .i64 o.kind) ∧ W.cell? ⟨b1, o1 + i * 3 + 1, none⟩ = some (.int .i64 o.which) ∧ W.cell? ⟨b1, o1 + i * 3 + 2, none⟩ = some (.string o.text)) := fun W hW => by
            obtain ⟨o', b', o1', hx', e', h1, h2, h3⟩ := (HS.out.keep (ext_trans EW7.out hW.old)).2.at hlt
            cases e'
            rw [hx] at hx'
            cases hx'
            exact ⟨h1, h2, h3⟩
          obtain ⟨kd, wh, tx⟩ := o
          dsimp only at g1 g2 g3 OC
          clear hx hex
          go_upto_region 21 with (first
            | ((go_at_call 8; (with_reducible refine (SA.out _ kd wh tx HT.out).mono ?_); rintro e w5 ⟨rfl, t5⟩); have T5 := Lib.hid t5; clear t5; obtain ⟨h1, h2, h3⟩ := OC.out w5 T5.out)
            | ((go_at_call 8; (with_reducible refine (SB.out _ kd wh tx T5.out).mono ?_); rintro e w6 ⟨rfl, t6⟩); have T6 := Lib.hid t6; clear t6))
          obtain ⟨j1, j2, j3⟩ := OC.out w6 T6.out
          clear g1 g2 g3 h1 h2 h3
          obtain ⟨q, hq⟩ : ∃ q, (wh.tmod 2 == 0) = q := ⟨_, rfl⟩
          cases q with
          | true =>
            go_wp2_with (go_at_call 8; (with_reducible refine (SC.out _ kd wh tx T6.out).mono ?_); rintro e w8 ⟨rfl, t8⟩; have T8 := Lib.hid t8; clear t8)
            go_roundw
            case rel => exact ⟨i + 1, by omega, by go_num, T8.out⟩
            case measure => simp [intOf]; omega
          | false =>
            go_wp2_with (go_at_call 8; (with_reducible refine (SD.out _ kd wh tx T6.out).mono ?_); rintro e w8 ⟨rfl, t8⟩; have T8 := Lib.hid t8; clear t8)
            go_roundw
            case rel => exact ⟨i + 1, by omega, by go_num, T8.out⟩
            case measure => simp [intOf]; omega
        · obtain rfl : i = sn := by omega
          have hge : ¬ (i : Int) < (i : Int) := by omega
          go_wp2_with (first
            | ((go_at_call 8; (with_reducible refine (SC.out _ 0 0 ⟨#[]⟩ HT.out).mono ?_); rintro e w5 ⟨rfl, t5⟩); have T5 := Lib.hid t5; clear t5)
            | ((go_at_call 8; (with_reducible refine (SD.out _ 0 0 ⟨#[]⟩ T5.out).mono ?_); rintro e w6 ⟨rfl, t6⟩); have T6 := Lib.hid t6; clear t6))
          go_returns
          exact ⟨rfl, ext_trans EW7.out T6.out.old⟩
end Go.Proofs.YthjpfplebbnbpaaGreat
