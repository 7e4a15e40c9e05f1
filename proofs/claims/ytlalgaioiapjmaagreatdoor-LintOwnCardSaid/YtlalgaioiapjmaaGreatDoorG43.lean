/- The walks of slices.Grow and slices.Concat at lint's looks. Printed by mk_cat.py. -/
import Derived.Test.YtlalgaioiapjmaaGreatDoorG20
namespace Go.Proofs.YtlalgaioiapjmaaGreatDoor
open Go.ChangeShapes Go.WideShapes Go.ChangeAt Go.RowKit Go.Shelf
theorem info_look : (Tryz.prog.info? 62).map (fun i => (i.zero, i.size, i.bytes)) = some (some (.agg #[.int .i64 0, .nilFunc]), 2, 16) := by kernel_rfl
def growLk_ren : Go.Shelf.Ren := ⟨fun | 4 => 28 | n => n, fun | 22 => 58 | 25 => 62 | 3 => 3 | 4 => 4 | 9 => 9 | 20 => 20 | 0 => 0 | n => n, fun | n => n⟩
theorem growLk : Go.Proofs.Lays8.n4 Tryz.prog growLk_ren := {
  mixed := by kernel_rfl
  f4 := ⟨Tryz.f28.name, by decide, Tryz.func28.trans (congrArg some (by kernel_rfl))⟩
  t0 := Tryz.underlying0
  a0 := Tryz.isAgg0
  z0 := Tryz.sizeOf0
  v0 := Tryz.zeroValue0
  t3 := Tryz.underlying3
  a3 := Tryz.isAgg3
  z3 := Tryz.sizeOf3
  v3 := Tryz.zeroValue3
  t4 := Tryz.underlying4
  a4 := Tryz.isAgg4
  z4 := Tryz.sizeOf4
  v4 := Tryz.zeroValue4
  t9 := Tryz.underlying9
  a9 := Tryz.isAgg9
  z9 := Tryz.sizeOf9
  v9 := Tryz.zeroValue9
  t20 := Tryz.underlying20
  a20 := Tryz.isAgg20
  z20 := Tryz.sizeOf20
  v20 := Tryz.zeroValue20
  t22 := Tryz.underlying58
  a22 := Tryz.isAgg58
  z22 := Tryz.sizeOf58
  v22 := Tryz.zeroValue58 }
/-- slices.Grow of the nil slice of literals: room of the call's own. -/
theorem c_growLk (n : Nat) (w : World) (hn : n ≤ 1000000000000) : Calls Tryz.prog 28 #[.slice none 0 0, .int .i64 (n : Int)] w fun e w' => ∃ v, e = .returned v ∧ w'.ownsRow w.heap.size 62 2 v 0 [] ∧ Ext w w' := by
  cases n with
  | zero =>
    refine (Any8.slices_Grow_room growLk none 0 0 0 w (Nat.le_refl _) (by decide) (by decide) (Nat.le_refl _)).mono ?_
    rintro e w' ⟨rfl, rfl⟩
    exact ⟨_, rfl, World.ownsRow_nil _ _ _ _, Below.refl _ _⟩
  | succ n =>
    obtain ⟨i0, hi, hz0, hz1, hz2⟩ := info_parts info_look
    refine (Any8.slices_Grow_grow growLk i0 _ hi hz0 (by rw [hz1]; decide) none 0 0 (n + 1) [] w (Nat.le_refl _) (by omega) (by rw [hz2]; omega) (by omega) (by simp) (fun _ => rfl) (fun a e => by cases e)).mono ?_
    rintro e w' ⟨rfl, rfl⟩
    have hge := grownCap_ge w (0 + (n + 1)) 0 (growLk_ren.t 25)
    have hle := grownCap_le_maxLen w (0 + (n + 1)) 0 (growLk_ren.t 25) (by unfold maxLen; omega)
    refine ⟨_, rfl, ⟨rfl, .inr ⟨w.heap.size, _, _, rfl, Nat.le_refl _, heap_alloc_new w.drew _, Nat.zero_le _, hle, ?_, by simp⟩⟩, ext_alloc (ext_drew (Below.refl _ _)) _⟩
    rw [Array.size_append, Array.size_append, size_zeroCells, size_zeroCells]
    show 0 + _ * 2 + _ * 2 = _ * 2
    omega
theorem c_growLk2 (n m : Nat) (w : World) (hn : n + m ≤ 1000000000000) : Calls Tryz.prog 28 #[.slice none 0 0, .int .i64 ((n : Int) + (m : Int))] w fun e w' => ∃ v, e = .returned v ∧ w'.ownsRow w.heap.size 62 2 v 0 [] ∧ Ext w w' := Int.natCast_add n m ▸ c_growLk (n + m) w hn
set_option maxRecDepth 20000 in
theorem c_ConcatLk (xs ys : List Value) (b : Nat) (a1 : Option Addr) (n1 c1 : Nat) (a2 : Option Addr) (n2 c2 : Nat) (w : World) (h1 : w.cell? ⟨b, 0, none⟩ = some (.slice a1 n1 c1)) (h2 : w.cell? ⟨b, 1, none⟩ = some (.slice a2 n2 c2)) (hl1 : xs.length = n1 * 2) (hl2 : ys.length = n2 * 2) (ho1 : ∀ u ∈ xs, u.oneCell' = true) (ho2 : ∀ u ∈ ys, u.oneCell' = true) (hn : n1 + n2 ≤ 1000000000000) (hc1 : a1 = none → n1 = 0 ∧ c1 = 0) (hc2 : a2 = none → n2 = 0 ∧ c2 = 0)
    (hp : ∀ ad, a1 = some ad → ∀ j u, xs[j]? = some u → w.cell? (ad.add j) = some u) (hq : ∀ ad, a2 = some ad → ∀ j u, ys[j]? = some u → w.cell? (ad.add j) = some u) :
    Calls Tryz.prog 15 #[.slice (some ⟨b, 0, none⟩) 2 2] w fun e w' => ∃ a' c', e = .returned (.slice a' (n1 + n2) c') ∧ w'.ownsRow w.heap.size 62 2 (.slice a' (n1 + n2) c') (n1 + n2) (xs ++ ys) ∧ Ext w w' := by
  obtain ⟨i0, hi, hz0, hz1, hz2⟩ := info_parts info_look
  have HP := Lib.hid hp
  have HQ := Lib.hid hq
  have C1 := Lib.hid hc1
  have C2 := Lib.hid hc2
  have L1 := Lib.hid hl1
  have L2 := Lib.hid hl2
  clear hp hq hc1 hc2 hl1 hl2
  go_enter Tryz.func15, Tryz.ntmps15
  go_wp2
  go_loopw [3, 11] (fun v i wj => ∃ k : Nat, k ≤ 2 ∧ i = .int .i64 (k : Int) ∧ v = .int .i64 ((if k = 0 then 0 else if k = 1 then n1 else n1 + n2 : Nat) : Int) ∧ wj = w) (fun _ i _ => 2 - (intOf i).toNat)
  case atStart => exact ⟨0, by omega, rfl, rfl, rfl⟩
  case round =>
    obtain ⟨k, hk, rfl, rfl, rfl⟩ := hrel
    have hk3 : k = 0 ∨ k = 1 ∨ k = 2 := by omega
    rcases hk3 with rfl | rfl | rfl
    · go_wp2
      go_roundw
      case rel => exact ⟨1, by omega, by go_num, by simp, by trivial⟩
      case measure => simp [intOf]
    · go_wp2
      go_roundw
      case rel => exact ⟨2, by omega, by go_num, by simp, by trivial⟩
      case measure => simp [intOf]
    · rw [show (if (2 : Nat) = 0 then 0 else if 2 = 1 then n1 else n1 + n2 : Nat) = n1 + n2 by simp]
      obtain ⟨U, rfl⟩ : ∃ U, U = wr := ⟨_, rfl⟩
      go_wp2_with (go_at_call 28; (with_reducible refine (c_growLk2 n1 n2 U hn).mono ?_); rintro e w1 ⟨v1, rfl, own1, hb1⟩; have g1 := keep hb1 h1; have g2 := keep hb1 h2)
      have O1 := Lib.hid own1
      have B1 := Lib.hid hb1
      clear own1
      go_loopw [6, 27] (fun v i wj => ∃ k : Nat, k ≤ 2 ∧ i = .int .i64 (k : Int) ∧ Ext U wj ∧ wj.ownsRow U.heap.size 62 2 v (if k = 0 then 0 else if k = 1 then n1 else n1 + n2) (if k = 0 then [] else if k = 1 then xs else xs ++ ys)) (fun _ i _ => 2 - (intOf i).toNat)
      case atStart => exact ⟨0, by omega, rfl, B1.out, O1.out⟩
      case round =>
        obtain ⟨k, hk, rfl, hb2, own2⟩ := hrel
        have g1 := keep hb2 h1
        have g2 := keep hb2 h2
        have hk3 : k = 0 ∨ k = 1 ∨ k = 2 := by omega
        rcases hk3 with rfl | rfl | rfl
        · simp only [if_true] at own2
          go_wp2_with (at_builtin; go_loud (refine wpList_append_any rfl _ _ 58 rfl U.heap.size 62 i0 (.agg #[.int .i64 0, .nilFunc]) 2 16 Tryz.underlying58 hi hz0 hz1 hz2 rfl (by decide) _ _ _ rfl own2 a1 n1 c1 xs rfl C1.out (by rw [L1.out]) (fun x e j u hu => keep hb2 (HP.out x e j u hu)) ho1 (by unfold maxLen; omega) (by omega) hb2.size ?_); intro v4 w4 own4 g4)
          go_roundw
          case rel => exact ⟨1, by omega, by go_num, ext_ownB hb2 g4 (fun g e => (own2.lt g e).1), by simpa using own4⟩
          case measure => simp [intOf]
        · simp only [if_true, if_neg (by decide : ¬ (1 : Nat) = 0)] at own2
          go_wp2_with (at_builtin; go_loud (refine wpList_append_any rfl _ _ 58 rfl U.heap.size 62 i0 (.agg #[.int .i64 0, .nilFunc]) 2 16 Tryz.underlying58 hi hz0 hz1 hz2 rfl (by decide) _ _ _ rfl own2 a2 n2 c2 ys rfl C2.out (by rw [L2.out]) (fun x e j u hu => keep hb2 (HQ.out x e j u hu)) ho2 (by unfold maxLen; omega) (by omega) hb2.size ?_); intro v4 w4 own4 g4)
          go_roundw
          case rel => exact ⟨2, by omega, by go_num, ext_ownB hb2 g4 (fun g e => (own2.lt g e).1), by simpa using own4⟩
          case measure => simp [intOf]
        · simp only [if_neg (by decide : ¬ (2 : Nat) = 0), if_neg (by decide : ¬ (2 : Nat) = 1)] at own2
          obtain ⟨a', c', rfl, _⟩ := own_form own2
          go_wp2
          go_returns
          exact ⟨a', c', rfl, own2, hb2⟩
end Go.Proofs.YtlalgaioiapjmaaGreatDoor
