/- Scripts in memory; the walk of the law's walked. -/
import Derived.Test.YthjpfplebbnbpaaStep
namespace Go.Proofs.Ythjpfplebbnbpaa
open Go.ChangeShapes Go.WideShapes Go.ChangeAt Go.RowKit
structure OpM where
  kind : Int
  which : Int
  text : ByteArray
def OpM.p (o : OpM) : Int × ByteArray := (o.kind, o.text)
def opAt (w : World) (b o : Nat) (x : OpM) : Prop := w.cell? ⟨b, o, none⟩ = some (.int .i64 x.kind) ∧ w.cell? ⟨b, o + 1, none⟩ = some (.int .i64 x.which) ∧ w.cell? ⟨b, o + 2, none⟩ = some (.string x.text)
theorem opAt.keep {W w : World} (hb : Ext W w) {b o : Nat} {x : OpM} (h : opAt W b o x) : opAt w b o x := ⟨Ythjpfplebbnbpaa.keep hb h.1, Ythjpfplebbnbpaa.keep hb h.2.1, Ythjpfplebbnbpaa.keep hb h.2.2⟩
def OpsAt (w : World) (a : Option Addr) (n : Nat) (ops : List OpM) : Prop := n ≤ maxLen ∧ SliceAt opAt 3 w a n ops
theorem OpsAt.keep {W w : World} (hb : Ext W w) {a : Option Addr} {n : Nat} {ops : List OpM} (h : OpsAt W a n ops) : OpsAt w a n ops := ⟨h.1, h.2.keep fun _ _ _ => opAt.keep hb⟩
/-- A cursor that a script has brought somewhere. -/
def WkdPost (d : Nat) (ways : List (List ByteArray)) (pt : Nat) (ops : List OpM) (w : World) (e : Ending) (w' : World) : Prop := Ext w w' ∧ ∃ rb, e = .returned (.pointer (some ⟨w.heap.size, 0, none⟩)) ∧ CurV w' w.heap.size w.heap.size pt rb (runM d ways (ops.map OpM.p))
theorem step_ext {w0 w w' : World} {lo pc pt : Nat} {rb : Option Nat} {sp : List (Nat × Nat)} (h0 : Ext w0 w) (hlo : w0.heap.size ≤ lo) (h : CurV w lo pc pt rb sp) (hb : ButS (CurB pc rb) w w') : Ext w0 w' := ext_of_but h0 hb (fun b hb' hh => by
  rcases hh with rfl | hh
  · have := h.lo; omega
  · have := (h.ne hh).2.1; omega)
set_option maxRecDepth 100000 in
set_option maxHeartbeats 2000000 in
theorem c_walked (pt d : Nat) (ways : List (List ByteArray)) (ops : List OpM) (ao : Option Addr) (no co : Nat) (w : World) (h : TrieV w pt d ways) (hw : Ways d ways) (ho : OpsAt w ao no ops) (hd : d ≤ 64) (hn : ways.length ≤ 1000000) :
    Calls Try.prog 22 #[.pointer (some ⟨pt, 0, none⟩), .slice ao no co] w (WkdPost d ways pt ops w) := by
  have TV := Lib.hid h
  have HW := Lib.hid hw
  have HO := Lib.hid ho
  have HL : Hid (ops.length = no) := ho.2.1
  have hm : no ≤ 9223372036854775807 := ho.1
  have WK := Lib.hid (c_walk pt d ways w.heap.size w h (Nat.le_refl _))
  clear h hw ho
  go_enter Try.func22, Try.ntmps22
  go_upto_region 2 with (go_at_call 9; (with_reducible refine WK.out.mono ?_); rintro e w1 ⟨rfl, cv1, E1⟩)
  have CV1 := Lib.hid cv1
  have E1h := Lib.hid E1
  obtain ⟨pc, hpc⟩ : ∃ pc, w.heap.size = pc := ⟨_, rfl⟩
  rw [hpc] at CV1 ⊢
  have HPC : Hid (w.heap.size = pc) := hpc
  clear cv1 E1 WK hpc
  go_wp2
  go_loopw [6] (fun v6 wj => ∃ i : Nat, i ≤ no ∧ v6 = .int .i64 (i : Int) ∧ ∃ rb, CurV wj pc pc pt rb (runM d ways ((ops.take i).map OpM.p)) ∧ Ext w wj) (fun v6 _ => no - (intOf v6).toNat)
  case atStart => exact ⟨0, Nat.zero_le _, rfl, none, CV1.out, E1h.out⟩
  case round =>
    obtain ⟨i, hi, rfl, rb, hcv, hex⟩ := hrel
    have CV := Lib.hid hcv
    have EX := Lib.hid hex
    have OKR := Lib.hid (runM_ok HW.out ((ops.take i).map OpM.p))
    obtain ⟨sp, hsp⟩ : ∃ sp, runM d ways ((ops.take i).map OpM.p) = sp := ⟨_, rfl⟩
    rw [hsp] at CV OKR
    by_cases hlt : i < no
    · have hlti : (i : Int) < (no : Int) := by omega
      obtain ⟨o, b1, o1, hx, rfl, g1, g2, g3⟩ := (HO.out.keep hex).2.at hlt
      have NX : Hid (runM d ways ((ops.take (i + 1)).map OpM.p) = stepM d ways sp o.p) := by
        show _ = _
        rw [take_at hx, List.map_append, List.map_cons, List.map_nil, runM_snoc, hsp]
      have TVr : Hid (TrieV wr pt d ways) := TV.out.ext hex
      obtain ⟨kd, wh, tx⟩ := o
      dsimp only at g1 g2 g3
      have FIN : Hid (∀ sp' b e w', stepM d ways sp (kd, tx) = sp' → StepPost pc pc pt rb sp' b wr e w' → ∃ rb', CurV w' pc pc pt rb' (runM d ways ((ops.take (i + 1)).map OpM.p)) ∧ Ext w w') := fun sp' b e w' hs ⟨rb', _, h2, h3, _⟩ => ⟨rb', by rw [NX.out]; unfold OpM.p; rw [hs]; exact h2, step_ext EX.out (by have := HPC.out; omega) CV.out h3⟩
      have SB : Hid (∀ {f : FuncId} {args : Array Value} {sp' : List (Nat × Nat)} {b : Bool}, Calls Try.prog f args wr (StepPost pc pc pt rb sp' b wr) → Calls Try.prog f args wr fun e w' => e = .returned (.bool b) ∧ StepPost pc pc pt rb sp' b wr e w') := fun hh => hh.mono fun e w' hp => ⟨by obtain ⟨_, he, _⟩ := hp; exact he, hp⟩
      clear hcv hex hx hsp
      by_cases k1 : kd = 1
      · subst k1
        have SO := Lib.hid (SB.out (s_open CV.out TVr.out HW.out OKR.out hd hn))
        have e1 : Hid (stepM d ways sp (1, tx) = openM d ways sp) := rfl
        go_wp2_with (go_at_call 14; (with_reducible refine SO.out.mono ?_); rintro e w3 ⟨rfl, p3⟩; have P3 := Lib.hid p3; clear p3)
        go_roundw
        case rel => exact ⟨i + 1, by omega, by go_num, FIN.out _ _ _ _ e1.out P3.out⟩
        case measure => simp [intOf]; omega
      · by_cases k2 : kd = 2
        · subst k2
          have SO := Lib.hid (SB.out (s_up CV.out))
          have e1 : Hid (stepM d ways sp (2, tx) = sp.dropLast) := rfl
          go_wp2_with (go_at_call 11; (with_reducible refine SO.out.mono ?_); rintro e w3 ⟨rfl, p3⟩; have P3 := Lib.hid p3; clear p3)
          go_roundw
          case rel => exact ⟨i + 1, by omega, by go_num, FIN.out _ _ _ _ e1.out P3.out⟩
          case measure => simp [intOf]; omega
        · by_cases k3 : kd = 3
          · subst k3
            have SO := Lib.hid (SB.out (s_next CV.out HW.out OKR.out hn))
            have e1 : Hid (stepM d ways sp (3, tx) = nextM sp) := rfl
            go_wp2_with (go_at_call 13; (with_reducible refine SO.out.mono ?_); rintro e w3 ⟨rfl, p3⟩; have P3 := Lib.hid p3; clear p3)
            go_roundw
            case rel => exact ⟨i + 1, by omega, by go_num, FIN.out _ _ _ _ e1.out P3.out⟩
            case measure => simp [intOf]; omega
          · by_cases k4 : kd = 4
            · subst k4
              have SO := Lib.hid (SB.out (s_seek tx CV.out TVr.out HW.out OKR.out hn))
              have e1 : Hid (stepM d ways sp (4, tx) = seekM ways sp tx) := rfl
              go_wp2_with (go_at_call 23; (with_reducible refine SO.out.mono ?_); rintro e w3 ⟨rfl, p3⟩; have P3 := Lib.hid p3; clear p3)
              go_roundw
              case rel => exact ⟨i + 1, by omega, by go_num, FIN.out _ _ _ _ e1.out P3.out⟩
              case measure => simp [intOf]; omega
            · have e1 : Hid (stepM d ways sp (kd, tx) = sp) := by
                show _ = _
                unfold stepM
                simp [k1, k2, k3, k4]
              go_wp2
              go_roundw
              case rel => exact ⟨i + 1, by omega, by go_num, rb, by rw [NX.out]; unfold OpM.p; rw [e1.out]; exact CV.out, EX.out⟩
              case measure => simp [intOf]; omega
    · obtain rfl : i = no := by omega
      have hge : ¬ (i : Int) < (i : Int) := by omega
      have ht : ops.take i = ops := List.take_of_length_le (by rw [HL.out]; exact Nat.le_refl _)
      rw [ht] at hsp
      have HP : Hid (WkdPost d ways pt ops w (.returned (.pointer (some ⟨pc, 0, none⟩))) wr) := ⟨EX.out, rb, by rw [HPC.out], by rw [hsp, HPC.out]; exact CV.out⟩
      clear hcv hex hsp ht
      go_wp2
      go_returns
      exact HP.out
end Go.Proofs.Ythjpfplebbnbpaa
