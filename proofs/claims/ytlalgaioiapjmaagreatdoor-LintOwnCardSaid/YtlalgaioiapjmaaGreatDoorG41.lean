/- The order of lint's findings: the walk of the closure that compares them. slices.SortFunc at lint's findings. The sort of lint's findings, in their row. All that lint finds, in plain words. -/
import Derived.Test.YtlalgaioiapjmaaGreatDoorG6
import Derived.Test.YtlalgaioiapjmaaGreatDoorG20
import Derived.Test.YtlalgaioiapjmaaGreatDoorG27
import Derived.Test.YtlalgaioiapjmaaGreatDoorG28
import Derived.Test.YtlalgaioiapjmaaGreatDoorG34
import Derived.Test.YtlalgaioiapjmaaGreatDoorG35
import Derived.Test.YtlalgaioiapjmaaGreatDoorG37
import Derived.Test.YtlalgaioiapjmaaGreatDoorG40
namespace Go.Proofs.YtlalgaioiapjmaaGreatDoor
open Go.ChangeShapes Go.WideShapes Go.ChangeAt Go.RowKit Go.Sort
open K (Finding)
theorem bl_cons (a b : UInt8) (x y : List UInt8) : Op.bytesLess (a :: x) (b :: y) = true ↔ a < b ∨ a = b ∧ Op.bytesLess x y = true := by
  simp [Op.bytesLess]
theorem bl_irr (x : List UInt8) : ¬ Op.bytesLess x x = true := by
  induction x with
  | nil => simp [Op.bytesLess]
  | cons a x ih =>
    rw [bl_cons]
    rintro (h | ⟨_, h⟩)
    · exact absurd h (by simp)
    · exact ih h
theorem bl_tri : ∀ (x y : List UInt8), Op.bytesLess x y = true ∨ x = y ∨ Op.bytesLess y x = true
  | [], [] => .inr (.inl rfl)
  | [], _ :: _ => .inl rfl
  | _ :: _, [] => .inr (.inr rfl)
  | a :: x, b :: y => by
    rcases Nat.lt_trichotomy a.toNat b.toNat with h | h | h
    · exact .inl ((bl_cons ..).2 (.inl (UInt8.lt_iff_toNat_lt.2 h)))
    · obtain rfl : a = b := UInt8.toNat_inj.1 h
      rcases bl_tri x y with h | h | h
      · exact .inl ((bl_cons ..).2 (.inr ⟨rfl, h⟩))
      · exact .inr (.inl (by rw [h]))
      · exact .inr (.inr ((bl_cons ..).2 (.inr ⟨rfl, h⟩)))
    · exact .inr (.inr ((bl_cons ..).2 (.inl (UInt8.lt_iff_toNat_lt.2 h))))
theorem bl_trans : ∀ (x y z : List UInt8), Op.bytesLess x y = true → Op.bytesLess y z = true → Op.bytesLess x z = true
  | _, _, [], _, h => by
    rename_i y _
    cases y <;> simp [Op.bytesLess] at h
  | [], _, _ :: _, _, _ => rfl
  | _ :: _, [], _ :: _, h, _ => by simp [Op.bytesLess] at h
  | a :: x, b :: y, c :: z, h, k => by
    rw [bl_cons] at h k ⊢
    rcases h with h | ⟨rfl, h⟩
    · rcases k with k | ⟨rfl, k⟩
      · left
        rw [UInt8.lt_iff_toNat_lt] at h k ⊢
        omega
      · exact .inl h
    · rcases k with k | ⟨rfl, k⟩
      · exact .inl k
      · exact .inr ⟨rfl, bl_trans x y z h k⟩
theorem toList_inj {a b : ByteArray} (h : a.toList = b.toList) : a = b := by
  have h1 := (toList_eq_iff a b.toList).1 h
  have h2 := (toList_eq_iff b b.toList).1 rfl
  rw [h1, ← h2]
def or4 (a b c d : Int) : Int := if (a != 0) = true then a else if (b != 0) = true then b else if (c != 0) = true then c else d
theorem c_or4 (a b c d : Int) (p : Nat) (w : World) (h0 : w.cell? ⟨p, 0, none⟩ = some (.int .i64 a)) (h1 : w.cell? ⟨p, 1, none⟩ = some (.int .i64 b)) (h2 : w.cell? ⟨p, 2, none⟩ = some (.int .i64 c)) (h3 : w.cell? ⟨p, 3, none⟩ = some (.int .i64 d)) :
    Calls Tryz.prog 21 #[.slice (some ⟨p, 0, none⟩) 4 4] w fun e w' => e = .returned (.int .i64 (or4 a b c d)) ∧ w' = w := by
  obtain ⟨b1, e1⟩ : ∃ q, (a != 0) = q := ⟨_, rfl⟩
  obtain ⟨b2, e2⟩ : ∃ q, (b != 0) = q := ⟨_, rfl⟩
  obtain ⟨b3, e3⟩ : ∃ q, (c != 0) = q := ⟨_, rfl⟩
  obtain ⟨b4, e4⟩ : ∃ q, (d != 0) = q := ⟨_, rfl⟩
  have RES : Hid (or4 a b c d = if b1 = true then a else if b2 = true then b else if b3 = true then c else if b4 = true then d else 0) := by
    show _ = _
    unfold or4
    rw [e1, e2, e3]
    cases b4 with
    | true => rfl
    | false =>
      have : d = 0 := by simpa using e4
      subst this
      rfl
  go_enter Tryz.func21, Tryz.ntmps21
  go_wp2
  go_loopw [8] (fun v wr => wr = w ∧ ∃ k : Nat, k ≤ 4 ∧ v = .int .i64 (k : Int) ∧ (0 < k → b1 = false) ∧ (1 < k → b2 = false) ∧ (2 < k → b3 = false) ∧ (3 < k → b4 = false)) (fun v _ => 4 - (intOf v).toNat)
  case atStart => exact ⟨rfl, 0, Nat.zero_le _, rfl, fun h => by omega, fun h => by omega, fun h => by omega, fun h => by omega⟩
  case round =>
    obtain ⟨rfl, k, hk, rfl, g1, g2, g3, g4⟩ := hrel
    have hk5 : k = 0 ∨ k = 1 ∨ k = 2 ∨ k = 3 ∨ k = 4 := by omega
    rcases hk5 with rfl | rfl | rfl | rfl | rfl
    · cases b1
      · go_wp2
        go_roundw
        case rel => exact ⟨by trivial, 1, by omega, by go_num, fun _ => by trivial, fun h => by omega, fun h => by omega, fun h => by omega⟩
        case measure => simp [intOf]
      · go_wp2
        go_returns
        exact ⟨by rw [RES.out]; rfl, rfl⟩
    · obtain rfl := g1 (by omega)
      cases b2
      · go_wp2
        go_roundw
        case rel => exact ⟨by trivial, 2, by omega, by go_num, fun _ => by trivial, fun _ => by trivial, fun h => by omega, fun h => by omega⟩
        case measure => simp [intOf]
      · go_wp2
        go_returns
        exact ⟨by rw [RES.out]; rfl, rfl⟩
    · obtain rfl := g1 (by omega)
      obtain rfl := g2 (by omega)
      cases b3
      · go_wp2
        go_roundw
        case rel => exact ⟨by trivial, 3, by omega, by go_num, fun _ => by trivial, fun _ => by trivial, fun _ => by trivial, fun h => by omega⟩
        case measure => simp [intOf]
      · go_wp2
        go_returns
        exact ⟨by rw [RES.out]; rfl, rfl⟩
    · obtain rfl := g1 (by omega)
      obtain rfl := g2 (by omega)
      obtain rfl := g3 (by omega)
      cases b4
      · go_wp2
        go_roundw
        case rel => exact ⟨by trivial, 4, by omega, by go_num, fun _ => by trivial, fun _ => by trivial, fun _ => by trivial, fun _ => by trivial⟩
        case measure => simp [intOf]
      · go_wp2
        go_returns
        exact ⟨by rw [RES.out]; rfl, rfl⟩
    · obtain rfl := g1 (by omega)
      obtain rfl := g2 (by omega)
      obtain rfl := g3 (by omega)
      obtain rfl := g4 (by omega)
      go_wp2
      go_returns
      exact ⟨by rw [RES.out]; rfl, rfl⟩
/-- A finding whose numbers are small. -/
abbrev FinB := { x : Finding // 0 ≤ x.kind ∧ x.kind ≤ 100 ∧ x.rule ≤ 1000000000 ∧ x.literal ≤ 1000000000 }
def cmpF (x y : FinB) : Int := or4 ((x.1.rule : Int) - (y.1.rule : Int)) (x.1.kind - y.1.kind) ((x.1.literal : Int) - (y.1.literal : Int)) (cmpT x.1.name y.1.name)
def encF (x : FinB) : List Value := valsF x.1
set_option maxRecDepth 100000 in
set_option maxHeartbeats 4000000 in
theorem c_Lint2 (x y : FinB) (W0 : World) :
    Calls Tryz.prog 20 #[.agg #[.int .i64 x.1.kind, .int .i64 (x.1.rule : Nat), .int .i64 (x.1.literal : Nat), .string x.1.name], .agg #[.int .i64 y.1.kind, .int .i64 (y.1.rule : Nat), .int .i64 (y.1.literal : Nat), .string y.1.name]] W0 fun e w' => e = .returned (.int .i64 (cmpF x y)) ∧ ∃ q os', w' = grow (W0.drewN q) os' := by
  obtain ⟨⟨k1, r1, l1, n1⟩, hx1, hx2, hx3, hx4⟩ := x
  obtain ⟨⟨k2, r2, l2, n2⟩, hy1, hy2, hy3, hy4⟩ := y
  dsimp only at hx1 hx2 hx3 hx4 hy1 hy2 hy3 hy4
  have RES : Hid (cmpF ⟨⟨k1, r1, l1, n1⟩, hx1, hx2, hx3, hx4⟩ ⟨⟨k2, r2, l2, n2⟩, hy1, hy2, hy3, hy4⟩ = or4 ((r1 : Int) - (r2 : Int)) (k1 - k2) ((l1 : Int) - (l2 : Int)) (cmpT n1 n2)) := (rfl : _ = _)
  obtain ⟨d1, hd1⟩ : ∃ d, (r1 : Int) - (r2 : Int) = d := ⟨_, rfl⟩
  obtain ⟨d2, hd2⟩ : ∃ d, k1 - k2 = d := ⟨_, rfl⟩
  obtain ⟨d3, hd3⟩ : ∃ d, (l1 : Int) - (l2 : Int) = d := ⟨_, rfl⟩
  obtain ⟨d4, hd4⟩ : ∃ d, cmpT n1 n2 = d := ⟨_, rfl⟩
  have RES2 : Hid (cmpF ⟨⟨k1, r1, l1, n1⟩, hx1, hx2, hx3, hx4⟩ ⟨⟨k2, r2, l2, n2⟩, hy1, hy2, hy3, hy4⟩ = or4 d1 d2 d3 d4) := by
    show _ = _
    rw [RES.out, hd1, hd2, hd3, hd4]
  have CM : Hid (∀ W, Calls Tryz.prog 22 #[.string n1, .string n2] W fun e w' => e = .returned (.int .i64 d4) ∧ w' = W) := fun W => by
    rw [← hd4]
    exact c_cmpT n1 n2 W
  have OR : Hid (∀ W p, W.cell? ⟨p, 0, none⟩ = some (.int .i64 d1) → W.cell? ⟨p, 1, none⟩ = some (.int .i64 d2) → W.cell? ⟨p, 2, none⟩ = some (.int .i64 d3) → W.cell? ⟨p, 3, none⟩ = some (.int .i64 d4) → Calls Tryz.prog 21 #[.slice (some ⟨p, 0, none⟩) 4 4] W fun e w' => e = .returned (.int .i64 (or4 d1 d2 d3 d4)) ∧ w' = W) := fun W p h0 h1 h2 h3 => c_or4 d1 d2 d3 d4 p W h0 h1 h2 h3
  have s1 : IntKind.i64.wrap ((r1 : Int) - (r2 : Int)) = d1 := by rw [IntKind.wrap_i64]; omega
  have s2 : IntKind.i64.wrap (k1 - k2) = d2 := by rw [IntKind.wrap_i64]; omega
  have s3 : IntKind.i64.wrap ((l1 : Int) - (l2 : Int)) = d3 := by rw [IntKind.wrap_i64]; omega
  have HS1 := Lib.hid hd1
  clear hd1 hd2 hd3
  clear RES hd4
  go_enter Tryz.func20, Tryz.ntmps20
  go_upto_region 1 with (fail)
  refine wp_gen (fun W hW => ?_)
  obtain ⟨p, hp⟩ : ∃ p, W0.heap.size = p := ⟨_, rfl⟩
  obtain ⟨q, hq⟩ : ∃ q, p + 1 = q := ⟨_, rfl⟩
  have B0 : Blk W p 37 [.int .i64 k1, .int .i64 (r1 : Nat), .int .i64 (l1 : Nat), .string n1] := by
    rw [hW, ← hp]
    exact (Blk.new W0 [.int .i64 k1, .int .i64 (r1 : Nat), .int .i64 (l1 : Nat), .string n1] 37).ext (ext_alloc (Below.refl _ _) _)
  have B1 : Blk W q 37 [.int .i64 k2, .int .i64 (r2 : Nat), .int .i64 (l2 : Nat), .string n2] := by
    rw [hW, ← hq, ← hp]
    have := Blk.new (W0.alloc (.cells #[.int .i64 k1, .int .i64 (r1 : Nat), .int .i64 (l1 : Nat), .string n1] 37)) [.int .i64 k2, .int .i64 (r2 : Nat), .int .i64 (l2 : Nat), .string n2] 37
    rw [World.size_alloc] at this
    exact this
  have HG : Hid (∃ os, W = grow W0 os) := ⟨_, by rw [hW]; simp only [alloc_eq_grow, grow_grow]; rfl⟩
  have CE : Hid (∀ w', Ext W w' → (w'.cell? ⟨p, 0, none⟩ = some (.int .i64 k1) ∧ w'.cell? ⟨p, 1, none⟩ = some (.int .i64 (r1 : Nat)) ∧ w'.cell? ⟨p, 2, none⟩ = some (.int .i64 (l1 : Nat)) ∧ w'.cell? ⟨p, 3, none⟩ = some (.string n1) ∧ w'.cell? ⟨q, 0, none⟩ = some (.int .i64 k2) ∧ w'.cell? ⟨q, 1, none⟩ = some (.int .i64 (r2 : Nat)) ∧ w'.cell? ⟨q, 2, none⟩ = some (.int .i64 (l2 : Nat)) ∧ w'.cell? ⟨q, 3, none⟩ = some (.string n2))) := fun w' e => by
    have b0 := B0.ext e
    have b1 := B1.ext e
    exact ⟨b0.cell rfl, b0.cell rfl, b0.cell rfl, b0.cell rfl, b1.cell rfl, b1.cell rfl, b1.cell rfl, b1.cell rfl⟩
  have C0 := Lib.hid (CE.out W.drew (ext_drew (Below.refl _ _)))
  have C1 := Lib.hid (fun o => CE.out (W.drew.alloc o) (ext_alloc (ext_drew (Below.refl _ _)) o))
  have C2 := Lib.hid (fun o => CE.out (W.alloc o).drew (ext_drew (ext_alloc (Below.refl _ _) o)))
  have mixed : Tryz.prog.follows .mixedOrders = true := by kernel_rfl
  rw [hp, hq]
  clear hW B0 B1 hp hq CE
  go_region_held3 (fun w' => w'.cell? ⟨p, 0, none⟩ = some (.int .i64 k1) ∧ w'.cell? ⟨p, 1, none⟩ = some (.int .i64 (r1 : Nat)) ∧ w'.cell? ⟨p, 2, none⟩ = some (.int .i64 (l1 : Nat)) ∧ w'.cell? ⟨p, 3, none⟩ = some (.string n1) ∧ w'.cell? ⟨q, 0, none⟩ = some (.int .i64 k2) ∧ w'.cell? ⟨q, 1, none⟩ = some (.int .i64 (r2 : Nat)) ∧ w'.cell? ⟨q, 2, none⟩ = some (.int .i64 (l2 : Nat)) ∧ w'.cell? ⟨q, 3, none⟩ = some (.string n2)) (first | (with_reducible exact C0.out) | (with_reducible exact C1.out _) | (with_reducible exact C2.out _) | fail) (first | (go_at_call 22; (with_reducible refine (CM.out _).mono ?_); rintro e w2 ⟨rfl, hw⟩; obtain rfl := hw.symm) | (go_at_call 21; (with_reducible refine (OR.out _ _ (by go_simp) (by go_simp) (by go_simp) (by go_simp)).mono ?_); rintro e w3 ⟨rfl, hw⟩; obtain rfl := hw.symm) | fail)
  go_wp2
  go_returns
  obtain ⟨os, hos⟩ := HG.out
  refine ⟨by rw [RES2.out]; rfl, 1, os ++ #[.cells #[.int .i64 d1, .int .i64 d2, .int .i64 d3, .int .i64 d4] 3], ?_⟩
  rw [hos, alloc_eq_grow, grow_grow, drew_grow]
  rfl
end Go.Proofs.YtlalgaioiapjmaaGreatDoor
namespace Go.Proofs.YtlalgaioiapjmaaGreatDoor
open Go.ChangeShapes Go.WideShapes Go.ChangeAt Go.RowKit Go.Shelf Go.Lib Go.Sort
open K (Finding)
theorem cmpT_neg (a b : ByteArray) : cmpT a b < 0 ↔ ltT a b = true := by
  unfold cmpT
  by_cases h : ltT a b = true
  · simp [h]
  · rw [if_neg h]
    split <;> simp [h]
/-- Which finding stands first. -/
def ltF (x y : FinB) : Prop := x.1.rule < y.1.rule ∨ x.1.rule = y.1.rule ∧ (x.1.kind < y.1.kind ∨ x.1.kind = y.1.kind ∧ (x.1.literal < y.1.literal ∨ x.1.literal = y.1.literal ∧ ltT x.1.name y.1.name = true))
theorem ltF_iff (x y : FinB) : ltOf cmpF x y = true ↔ ltF x y := by
  unfold ltOf cmpF or4 ltF
  rw [decide_eq_true_iff]
  by_cases h1 : x.1.rule = y.1.rule
  · have e1 : ((x.1.rule : Int) - (y.1.rule : Int) != 0) = false := by simp; omega
    rw [e1]
    by_cases h2 : x.1.kind = y.1.kind
    · have e2 : (x.1.kind - y.1.kind != 0) = false := by simp; omega
      rw [e2]
      by_cases h3 : x.1.literal = y.1.literal
      · have e3 : ((x.1.literal : Int) - (y.1.literal : Int) != 0) = false := by simp; omega
        rw [e3]
        simp [h1, h2, h3, cmpT_neg]
      · have e3 : ((x.1.literal : Int) - (y.1.literal : Int) != 0) = true := by simp; omega
        rw [e3]
        simp [h1, h2, h3]
        omega
    · have e2 : (x.1.kind - y.1.kind != 0) = true := by simp; omega
      rw [e2]
      simp [h1, h2]
      omega
  · have e1 : ((x.1.rule : Int) - (y.1.rule : Int) != 0) = true := by simp; omega
    rw [e1]
    simp [h1]
    omega
theorem ltT_tri (a b : ByteArray) : ltT a b = true ∨ a = b ∨ ltT b a = true := by
  rcases bl_tri a.toList b.toList with h | h | h
  · exact .inl h
  · exact .inr (.inl (toList_inj h))
  · exact .inr (.inr h)
theorem ltF_tri (x y : FinB) : ltF x y ∨ x.1 = y.1 ∨ ltF y x := by
  unfold ltF
  rcases Nat.lt_trichotomy x.1.rule y.1.rule with h | h | h
  · exact .inl (.inl h)
  · rcases Int.lt_trichotomy x.1.kind y.1.kind with k | k | k
    · exact .inl (.inr ⟨h, .inl k⟩)
    · rcases Nat.lt_trichotomy x.1.literal y.1.literal with l | l | l
      · exact .inl (.inr ⟨h, .inr ⟨k, .inl l⟩⟩)
      · rcases ltT_tri x.1.name y.1.name with n | n | n
        · exact .inl (.inr ⟨h, .inr ⟨k, .inr ⟨l, n⟩⟩⟩)
        · refine .inr (.inl ?_)
          obtain ⟨⟨a, b, c, d⟩, hx⟩ := x
          obtain ⟨⟨a', b', c', d'⟩, hy⟩ := y
          dsimp only at h k l n
          subst h k l n
          rfl
        · exact .inr (.inr (.inr ⟨h.symm, .inr ⟨k.symm, .inr ⟨l.symm, n⟩⟩⟩))
      · exact .inr (.inr (.inr ⟨h.symm, .inr ⟨k.symm, .inl l⟩⟩))
    · exact .inr (.inr (.inr ⟨h.symm, .inl k⟩))
  · exact .inr (.inr (.inl h))
theorem ltF_irr (x : FinB) : ¬ ltF x x := by
  rintro (h | ⟨_, h | ⟨_, h | ⟨_, h⟩⟩⟩)
  · omega
  · omega
  · omega
  · exact bl_irr _ h
theorem ltF_trans {x y z : FinB} (h : ltF x y) (k : ltF y z) : ltF x z := by
  unfold ltF at *
  rcases h with h | ⟨h1, h | ⟨h2, h | ⟨h3, h⟩⟩⟩ <;> rcases k with k | ⟨k1, k | ⟨k2, k | ⟨k3, k⟩⟩⟩
  all_goals first
    | (left; omega)
    | (right; refine ⟨by omega, ?_⟩; left; omega)
    | (right; refine ⟨by omega, ?_⟩; right; refine ⟨by omega, ?_⟩; left; omega)
    | (right; refine ⟨by omega, ?_⟩; right; refine ⟨by omega, ?_⟩; right; exact ⟨by omega, bl_trans _ _ _ h k⟩)
theorem swoF : SWO (ltOf cmpF) where
  irrefl x := by
    cases h : ltOf cmpF x x with
    | false => rfl
    | true => exact absurd ((ltF_iff x x).1 h) (ltF_irr x)
  trans x y z h1 h2 := (ltF_iff x z).2 (ltF_trans ((ltF_iff x y).1 h1) ((ltF_iff y z).1 h2))
  ntrans x y z h1 h2 := by
    cases h : ltOf cmpF x z with
    | false => rfl
    | true =>
      have hxz := (ltF_iff x z).1 h
      have n1 : ¬ ltF x y := fun e => by rw [(ltF_iff x y).2 e] at h1; cases h1
      have n2 : ¬ ltF y z := fun e => by rw [(ltF_iff y z).2 e] at h2; cases h2
      rcases ltF_tri x y with e | e | e
      · exact absurd e n1
      · have : x = y := Subtype.ext e
        subst this
        exact absurd hxz n2
      · exact absurd (ltF_trans e hxz) n2
def Tryz.sortF_ren : Go.Shelf.Ren := ⟨fun | 6 => 19 | 15 => 55 | 14 => 54 | 28 => 90 | 29 => 91 | 20 => 82 | 21 => 83 | 22 => 84 | 23 => 85 | 24 => 86 | 25 => 87 | 26 => 88 | 27 => 89 | 46 => 111 | 47 => 112 | 48 => 113 | 49 => 114 | 50 => 115 | 57 => 146 | n => n, fun | 22 => 29 | 24 => 37 | 25 => 69 | 3 => 3 | 39 => 98 | 0 => 0 | 53 => 139 | 55 => 141 | 4 => 4 | 46 => 132 | 45 => 131 | 50 => 136 | 5 => 5 | 9 => 9 | 66 => 168 | 70 => 172 | 76 => 206 | 77 => 207 | n => n, fun | n => n⟩
theorem Tryz.sortF : Go.Proofs.SlLaysF0.n6 Tryz.prog Tryz.sortF_ren := {
  mixed := by kernel_rfl, f6 := ⟨Tryz.f19.name, by decide, Tryz.func19.trans (congrArg some (by kernel_rfl))⟩, f14 := ⟨Tryz.f54.name, by decide, Tryz.func54.trans (congrArg some (by kernel_rfl))⟩, f15 := Tryz.func55.trans (congrArg some (by kernel_rfl)), f20 := ⟨Tryz.f82.name, by decide, Tryz.func82.trans (congrArg some (by kernel_rfl))⟩, f21 := ⟨Tryz.f83.name, by decide, Tryz.func83.trans (congrArg some (by kernel_rfl))⟩, f22 := ⟨Tryz.f84.name, by decide, Tryz.func84.trans (congrArg some (by kernel_rfl))⟩, f23 := ⟨Tryz.f85.name, by decide, Tryz.func85.trans (congrArg some (by kernel_rfl))⟩,
  f24 := ⟨Tryz.f86.name, by decide, Tryz.func86.trans (congrArg some (by kernel_rfl))⟩, f25 := ⟨Tryz.f87.name, by decide, Tryz.func87.trans (congrArg some (by kernel_rfl))⟩, f26 := ⟨Tryz.f88.name, by decide, Tryz.func88.trans (congrArg some (by kernel_rfl))⟩, f27 := ⟨Tryz.f89.name, by decide, Tryz.func89.trans (congrArg some (by kernel_rfl))⟩, f28 := Tryz.func90.trans (congrArg some (by kernel_rfl)), f29 := Tryz.func91.trans (congrArg some (by kernel_rfl)), f46 := ⟨Tryz.f111.name, by decide, Tryz.func111.trans (congrArg some (by kernel_rfl))⟩, f47 := Tryz.func112.trans (congrArg some (by kernel_rfl)),
  f48 := Tryz.func113.trans (congrArg some (by kernel_rfl)), f49 := ⟨Tryz.f114.name, by decide, Tryz.func114.trans (congrArg some (by kernel_rfl))⟩, f50 := ⟨Tryz.f115.name, by decide, Tryz.func115.trans (congrArg some (by kernel_rfl))⟩, f57 := ⟨Tryz.f146.name, by decide, Tryz.func146.trans (congrArg some (by kernel_rfl))⟩, t0 := Tryz.underlying0, a0 := Tryz.isAgg0, z0 := Tryz.sizeOf0, v0 := Tryz.zeroValue0,
  t3 := Tryz.underlying3, a3 := Tryz.isAgg3, z3 := Tryz.sizeOf3, v3 := Tryz.zeroValue3, t4 := Tryz.underlying4, a4 := Tryz.isAgg4, z4 := Tryz.sizeOf4, v4 := Tryz.zeroValue4,
  t5 := Tryz.underlying5, a5 := Tryz.isAgg5, z5 := Tryz.sizeOf5, v5 := Tryz.zeroValue5, t9 := Tryz.underlying9, a9 := Tryz.isAgg9, z9 := Tryz.sizeOf9, v9 := Tryz.zeroValue9,
  t22 := Tryz.underlying29, a22 := Tryz.isAgg29, z22 := Tryz.sizeOf29, v22 := Tryz.zeroValue29, t25 := Tryz.underlying69, a25 := Tryz.isAgg69, z25 := Tryz.sizeOf69, v25 := Tryz.zeroValue69,
  t39 := Tryz.underlying98, a39 := Tryz.isAgg98, z39 := Tryz.sizeOf98, v39 := Tryz.zeroValue98, t45 := Tryz.underlying131, a45 := Tryz.isAgg131, z45 := Tryz.sizeOf131, v45 := Tryz.zeroValue131,
  t46 := Tryz.underlying132, a46 := Tryz.isAgg132, z46 := Tryz.sizeOf132, v46 := Tryz.zeroValue132, t50 := Tryz.underlying136, a50 := Tryz.isAgg136, z50 := Tryz.sizeOf136, v50 := Tryz.zeroValue136,
  t53 := Tryz.underlying139, a53 := Tryz.isAgg139, z53 := Tryz.sizeOf139, v53 := Tryz.zeroValue139, t55 := Tryz.underlying141, a55 := Tryz.isAgg141, z55 := Tryz.sizeOf141, v55 := Tryz.zeroValue141,
  t66 := Tryz.underlying168, a66 := Tryz.isAgg168, z66 := Tryz.sizeOf168, v66 := Tryz.zeroValue168, t70 := Tryz.underlying172, a70 := Tryz.isAgg172, z70 := Tryz.sizeOf172, v70 := Tryz.zeroValue172,
  t76 := Tryz.underlying206, a76 := Tryz.isAgg206, z76 := Tryz.sizeOf206, v76 := Tryz.zeroValue206, t77 := Tryz.underlying207, a77 := Tryz.isAgg207, z77 := Tryz.sizeOf207, v77 := Tryz.zeroValue207 }
instance : Inhabited FinB := ⟨⟨⟨0, 0, 0, ⟨#[]⟩⟩, by decide⟩⟩
theorem cmpLaysF (blk off size : Nat) (w : World) : CmpLays Tryz.prog 20 #[] encF 4 cmpF blk off size w :=
  fun _ _ _ _ x y => c_Lint2 x y _
theorem c_sortF (blk off cap : Nat) (d : Array FinB) (w : World) (hH : HoldsK encF 4 w blk off d) (hblk : blk < w.heap.size) (hsz : d.size < 4611686018427387904) :
    Calls Tryz.prog 19 #[.slice (some ⟨blk, off, none⟩) d.size cap, .func (.func 20) #[] #[]] w fun e w' => e = .returned (.tuple #[]) ∧ ∃ d' n os, PermIn 0 d.size d d' ∧ SortedIn (ltOf cmpF) 0 d.size d' ∧ w' = sortWorldK encF 4 w blk off n d' os :=
  AnyQ.slices_SortFunc Tryz.sortF 4 Tryz.isAgg37 Tryz.sizeOf37 encF (fun _ => rfl) (fun x v hv => by simp [encF, valsF] at hv; rcases hv with rfl | rfl | rfl | rfl <;> rfl) cmpF swoF 20 #[] blk off cap d w (enters_of Tryz.func20 (by kernel_rfl) rfl) (cmpLaysF blk off d.size w) hH hblk hsz
theorem c_sortF0 (p : Option Addr) (cap : Nat) (fv : Value) (w : World) :
    Calls Tryz.prog 19 #[.slice p 0 cap, fv] w fun e w' => e = .returned (.tuple #[]) ∧ w' = w :=
  AnyF.slices_SortFunc_none Tryz.sortF p cap fv w
end Go.Proofs.YtlalgaioiapjmaaGreatDoor
namespace Go.Proofs.YtlalgaioiapjmaaGreatDoor
open Go.ChangeShapes Go.WideShapes Go.ChangeAt Go.RowKit Go.Shelf Go.Lib Go.Sort
open K (Finding)
theorem flat_get {α : Type} {f : α → List Value} {k : Nat} (hf : ∀ x, (f x).length = k) : ∀ (l : List α) (i c : Nat) (x : α), l[i]? = some x → c < k → (l.flatMap f)[i * k + c]? = (f x)[c]?
  | [], i, c, x, h, _ => by simp at h
  | a :: l, 0, c, x, h, hc => by
    simp at h
    subst h
    rw [List.flatMap_cons, Nat.zero_mul, Nat.zero_add, List.getElem?_append_left (by rw [hf]; exact hc)]
  | a :: l, i + 1, c, x, h, hc => by
    rw [List.flatMap_cons, List.getElem?_append_right (by rw [hf, Nat.succ_mul]; omega), hf, Nat.succ_mul, show i * k + k + c - k = i * k + c by omega]
    exact flat_get hf l i c x (by simpa using h) hc
theorem flat_len {α : Type} {f : α → List Value} {k : Nat} (hf : ∀ x, (f x).length = k) : ∀ l : List α, (l.flatMap f).length = l.length * k
  | [] => by simp
  | a :: l => by rw [List.flatMap_cons, List.length_append, hf, flat_len hf l, List.length_cons, Nat.succ_mul]; omega
section
variable {α : Type} [Inhabited α] {enc : α → List Value} {k : Nat}
theorem holds_own (hf : ∀ x, (enc x).length = k) (hk : 0 < k) {w : World} {base g n cap : Nat} {e : TypeId} {l : List α} (h : w.ownsRow base e k (.slice (some ⟨g, 0, none⟩) n cap) n (l.flatMap enc)) : HoldsK enc k w g 0 l.toArray := by
  obtain ⟨cur, hg⟩ : ∃ cur, w.heap[g]? = some (.cells cur e (0, 0)) := by
    rcases h.2 with ⟨h1, h0⟩ | ⟨g', c', cur, hv, _, hg, _⟩
    · cases h1
    · cases hv
      exact ⟨_, hg⟩
  intro j hj
  have hj' : j < l.length * k := by simpa using hj
  refine ⟨?_, by simp [World.frozen?, hg]⟩
  rw [get_flatK _ _ _ _ (by simpa using hj')]
  have h1 : j / k < l.length := by
    rw [Nat.div_lt_iff_lt_mul hk]
    exact hj'
  have h2 : j % k < k := Nat.mod_lt _ hk
  have h3 := flat_get hf l (j / k) (j % k) l[j / k] (List.getElem?_eq_getElem h1) h2
  rw [Nat.div_add_mod'] at h3
  have h4 : (enc l[j / k])[j % k]? = some ((enc l.toArray[j / k]!)[j % k]!) := by
    have e : l.toArray[j / k]! = l[j / k] := by simp [h1]
    rw [e]
    have hl : j % k < (enc l[j / k]).length := by rw [hf]; exact h2
    rw [List.getElem?_eq_getElem hl, getElem!_pos (enc l[j / k]) (j % k) hl]
  rw [h4] at h3
  have := h.cells (g := g) rfl j _ h3
  rw [Addr.add_lit] at this
  simpa using this
theorem own_sorted (hf : ∀ x, (enc x).length = k) (hk : 0 < k) {w : World} {base g n cap : Nat} {e : TypeId} {l : List α} (h : w.ownsRow base e k (.slice (some ⟨g, 0, none⟩) n cap) n (l.flatMap enc)) (d' : Array α) (m : Nat) (os : Array Obj) (hs : d'.size = n) (hl : l.length = n) :
    (sortWorldK enc k w g 0 m d' os).ownsRow base e k (.slice (some ⟨g, 0, none⟩) n cap) n (d'.toList.flatMap enc) := by
  refine ⟨by rw [flat_len hf]; simp [hs], ?_⟩
  have hH := holds_own hf hk h
  rcases h.2 with ⟨h1, h0⟩ | ⟨g', c', cur, hv, hb, hg, h5, h6, h7, h8⟩
  · cases h1
  · cases hv
    have hgl := (Array.getElem?_eq_some_iff.1 hg).1
    have hh := holdsK_sortWorldK_c (enc := enc) (k := k) (w := w) (blk := g) (off := 0) l.toArray d' m os hH hgl (by rw [hs]; simp [hl])
    obtain ⟨cur', hg', hsz⟩ : ∃ cur', (sortWorldK enc k w g 0 m d' os).heap[g]? = some (.cells cur' e (0, 0)) ∧ cur'.size = cur.size := by
      unfold sortWorldK putRowK
      rw [heap_grow_old _ _ (by simpa [putRow, mapBlock, Sort.ahead] using hgl)]
      refine ⟨putCells id 0 (flatK enc k d') cur, ?_, by simp [putCells]⟩
      simp [putRow, mapBlock, Sort.ahead, Array.getElem?_modify, hg, onCells]
    refine .inr ⟨g, cap, cur', rfl, hb, hg', h5, h6, by rw [hsz, h7], ?_⟩
    have hnk : n * k ≤ cur'.size := by
      rw [hsz, h7]
      exact Nat.mul_le_mul_right k h5
    apply List.ext_getElem?
    intro j
    by_cases hj : j < n * k
    · rw [List.getElem?_take, if_pos hj]
      have h1 : j / k < d'.toList.length := by
        rw [Nat.div_lt_iff_lt_mul hk]
        simpa [hs] using hj
      have h2 : j % k < k := Nat.mod_lt _ hk
      have h3 := flat_get hf d'.toList (j / k) (j % k) d'.toList[j / k] (List.getElem?_eq_getElem h1) h2
      rw [Nat.div_add_mod'] at h3
      rw [h3]
      have h4 := (hh.cell (i := j / k) (c := j % k) (by simpa using h1) h2).1
      rw [Nat.zero_add, Nat.div_add_mod'] at h4
      have h5 : (sortWorldK enc k w g 0 m d' os).cell? ⟨g, j, none⟩ = cur'[j]? := by simp [World.cell?, hg']
      rw [h5] at h4
      have e : d'[j / k]! = d'.toList[j / k] := by
        rw [getElem!_pos d' (j / k) (by simpa using h1)]
        simp
      rw [Array.getElem?_toList, h4, e]
      have hl : j % k < (enc d'.toList[j / k]).length := by rw [hf]; exact h2
      rw [List.getElem?_eq_getElem hl, getElem!_pos (enc d'.toList[j / k]) (j % k) hl]
    · rw [List.getElem?_eq_none (by rw [List.length_take]; omega), List.getElem?_eq_none (by rw [flat_len hf]; simp [hs]; omega)]
end
theorem sortWorldF_but (w : World) (blk off n : Nat) (d : Array FinB) (os : Array Obj) : ButS (fun x => x = blk) w (sortWorldK encF 4 w blk off n d os) := by
  unfold sortWorldK putRowK
  refine ⟨rfl, rfl, rfl, by simp, fun k hk hne => ?_⟩
  rw [heap_grow_old _ _ (by simpa using hk)]
  have : blk ≠ k := fun e => hne e.symm
  simp [putRow, mapBlock, Sort.ahead, Array.getElem?_modify, this]
def okF (x : Finding) : Prop := 0 ≤ x.kind ∧ x.kind ≤ 100 ∧ x.rule ≤ 1000000000 ∧ x.literal ≤ 1000000000
/-- Which finding stands first. -/
def ltN (x y : Finding) : Prop := x.rule < y.rule ∨ x.rule = y.rule ∧ (x.kind < y.kind ∨ x.kind = y.kind ∧ (x.literal < y.literal ∨ x.literal = y.literal ∧ ltT x.name y.name = true))
def RisF (F : List Finding) : Prop := ∀ (i j : Nat) (x y : Finding), i < j → F[i]? = some x → F[j]? = some y → ¬ ltN y x
theorem lift_F : ∀ (F : List Finding), (∀ x ∈ F, okF x) → ∃ G : List FinB, G.map (·.1) = F
  | [], _ => ⟨[], rfl⟩
  | x :: F, h => by
    obtain ⟨G, hG⟩ := lift_F F (fun y hy => h y (List.mem_cons_of_mem _ hy))
    exact ⟨⟨x, h x (List.mem_cons_self ..)⟩ :: G, by rw [List.map_cons, hG]⟩
theorem flatF_map (G : List FinB) : flatF (G.map (·.1)) = G.flatMap encF := by
  unfold flatF encF
  rw [List.flatMap_map]
def SortedPost (F : List Finding) (lo : Nat) (a : Option Addr) (n c : Nat) (W : World) (e : Ending) (w' : World) : Prop :=
  e = .returned (.tuple #[]) ∧ ∃ F', F'.Perm F ∧ RisF F' ∧ w'.ownsRow lo 37 4 (.slice a n c) n (flatF F') ∧ ButS (fun x => (Value.slice a n c).ownBlock = some x) W w'
theorem c_sortFs {F : List Finding} (hF : ∀ x ∈ F, okF x) {W : World} {lo n c : Nat} {a : Option Addr} (own : W.ownsRow lo 37 4 (.slice a n c) n (flatF F)) (hn : n ≤ 1000000000) :
    Calls Tryz.prog 19 #[.slice a n c, .func (.func 20) #[] #[]] W (SortedPost F lo a n c W) := by
  have hl : F.length = n := by
    have := own.1
    rw [flatF_len] at this
    omega
  obtain ⟨G, hG⟩ := lift_F F hF
  subst hG
  rw [List.length_map] at hl
  rcases own.2 with ⟨h1, h0⟩ | ⟨g, c', cur, hv, hb, hg, hr⟩
  · cases h1
    refine (c_sortF0 none 0 _ W).mono ?_
    rintro e w' ⟨rfl, rfl⟩
    obtain rfl : G = [] := List.eq_nil_of_length_eq_zero hl
    exact ⟨rfl, [], .refl _, fun i j x y _ h => by simp at h, own, ButS.refl _ _⟩
  · cases hv
    rw [flatF_map] at own
    have hH := holds_own (enc := encF) (k := 4) (fun _ => rfl) (by decide) own
    have hsz : G.toArray.size = n := by simpa using hl
    have hc2 := c_sortF g 0 c G.toArray W hH (Array.getElem?_eq_some_iff.1 hg).1 (by omega)
    rw [hsz] at hc2
    refine hc2.mono ?_
    rintro e w' ⟨rfl, d', m, os, hp, hs, rfl⟩
    have hsd : d'.size = n := by rw [hp.1, hsz]
    obtain ⟨_, _, hperm⟩ := hp
    have e1 : d'.extract 0 n = d' := by rw [← hsd]; exact Array.extract_size
    have e2 : G.toArray.extract 0 n = G.toArray := by rw [← hsz]; exact Array.extract_size
    rw [e1, e2] at hperm
    refine ⟨rfl, d'.toList.map (·.1), hperm.map _, ?_, ?_, (sortWorldF_but W g 0 m d' os).mono (fun b _ q => by rw [q]; rfl)⟩
    · intro i j x y hij hi hj
      rw [List.getElem?_map] at hi hj
      obtain ⟨x', hx, rfl⟩ := Option.map_eq_some_iff.1 hi
      obtain ⟨y', hy, rfl⟩ := Option.map_eq_some_iff.1 hj
      have hjl := (List.getElem?_eq_some_iff.1 hy).1
      have hjn : j < n := by simpa [hsd] using hjl
      have := hs i j (Nat.zero_le _) hij hjn
      have ex : d'[i]! = x' := by
        rw [getElem!_pos d' i (by omega)]
        have := (List.getElem?_eq_some_iff.1 hx).2
        simpa using this
      have ey : d'[j]! = y' := by
        rw [getElem!_pos d' j (by omega)]
        have := (List.getElem?_eq_some_iff.1 hy).2
        simpa using this
      rw [ex, ey] at this
      intro hlt
      rw [(ltF_iff y' x').2 hlt] at this
      cases this
    · rw [flatF_map]
      exact own_sorted (enc := encF) (k := 4) (fun _ => rfl) (by decide) own d' m os hsd hl
end Go.Proofs.YtlalgaioiapjmaaGreatDoor
namespace Go.Proofs.YtlalgaioiapjmaaGreatDoor
open K (AL Rule Finding)
/-- What all looks find at a rule. -/
noncomputable def looksT (rs : List Rule) (given wanted : List ByteArray) (n : Nat) (r : Rule) : List (Int × List Tell) :=
  [(1, look1 r), (2, look2 r), (3, look3 r), (4, look4 r), (7, look5 r), (5, lookA rs n r), (6, lookW rs n r), (8, look8 (liveV rs given) r), (9, look9 wanted (askedV rs wanted) r)]
noncomputable def ruleF (rs : List Rule) (given wanted : List ByteArray) (n : Nat) (r : Rule) : List Finding := (looksT rs given wanted n r).flatMap fun p => p.2.map (mkF p.1 n)
def collG {α β : Type} (g : Nat → α → List β) : Nat → List α → List β
  | _, [] => []
  | i, x :: l => g i x ++ collG g (i + 1) l
theorem collG_append {α β : Type} (g : Nat → α → List β) : ∀ (i : Nat) (l m : List α), collG g i (l ++ m) = collG g i l ++ collG g (i + l.length) m
  | i, [], m => by simp [collG]
  | i, x :: l, m => by
    show g i x ++ collG g (i + 1) (l ++ m) = (g i x ++ collG g (i + 1) l) ++ _
    rw [collG_append g (i + 1) l m, List.append_assoc]
    congr 3
    simp
    omega
theorem collG_take {α β : Type} (g : Nat → α → List β) {l : List α} {k : Nat} {x : α} (h : l[k]? = some x) : collG g 0 (l.take (k + 1)) = collG g 0 (l.take k) ++ g k x := by
  have hk := (List.getElem?_eq_some_iff.1 h).1
  rw [take_at h, collG_append, List.length_take, Nat.min_eq_left (by omega), Nat.zero_add]
  simp [collG]
theorem collG_mem {α β : Type} (g : Nat → α → List β) {P : β → Prop} : ∀ (l : List α) (i : Nat), (∀ (k : Nat) (x : α), l[k]? = some x → ∀ b ∈ g (i + k) x, P b) → ∀ b ∈ collG g i l, P b
  | [], _, _, b, hb => by cases hb
  | x :: l, i, h, b, hb => by
    rcases List.mem_append.1 hb with hb | hb
    · exact h 0 x (by simp) b hb
    · refine collG_mem g l (i + 1) (fun k y hy c hc => ?_) b hb
      refine h (k + 1) y (by simpa using hy) c ?_
      rw [show i + (k + 1) = i + 1 + k by omega]
      exact hc
theorem collG_len {α β : Type} (g : Nat → α → List β) (c : Nat) : ∀ (l : List α) (i : Nat), (∀ (k : Nat) (x : α), l[k]? = some x → (g (i + k) x).length ≤ c) → (collG g i l).length ≤ l.length * c
  | [], _, _ => by simp [collG]
  | x :: l, i, h => by
    have h1 := collG_len g c l (i + 1) (fun k y hy => by
      have := h (k + 1) y (by simpa using hy)
      rwa [show i + (k + 1) = i + 1 + k by omega] at this)
    have h2 := h 0 x (by simp)
    show (g i x ++ collG g (i + 1) l).length ≤ _
    rw [List.length_append, List.length_cons, Nat.succ_mul]
    rw [Nat.add_zero] at h2
    omega
noncomputable def lintF (rs : List Rule) (given wanted : List ByteArray) : List Finding := collG (ruleF rs given wanted) 0 rs
/-- Few, and of small numbers. -/
def FewT (c : Nat) (G : List Tell) : Prop := G.length ≤ c ∧ ∀ t ∈ G, t.1 ≤ 1000000000
theorem few_nil (c : Nat) : FewT c [] := ⟨Nat.zero_le _, fun t h => by cases h⟩
theorem few_O (o : Option Nat) (h : ∀ i, o = some i → i ≤ 1000000000) : FewT 1 (tellO o) := by
  cases o with
  | none => exact few_nil 1
  | some i => exact ⟨Nat.le_refl _, fun t ht => by rw [List.mem_singleton.1 ht]; exact h i rfl⟩
theorem few_idx {α : Type} (l : List α) (q : α → Bool) (hl : l.length ≤ 1000000000) : FewT 1 (tellO (l.findIdx? q)) := few_O _ fun i hi => by
  obtain ⟨h, _⟩ := List.findIdx?_eq_some_iff_getElem.1 hi
  omega
theorem tellG_mem {α : Type} {g : Nat → α → List Tell} {B : Nat} (hg : ∀ i x, ∀ t ∈ g i x, t.1 = i) : ∀ (l : List α) (i : Nat), i + l.length ≤ B → ∀ t ∈ tellG g i l, t.1 ≤ B
  | [], _, _, t, ht => by cases ht
  | x :: l, i, h, t, ht => by
    rw [List.length_cons] at h
    rcases List.mem_append.1 ht with ht | ht
    · rw [hg i x t ht]
      omega
    · exact tellG_mem hg l (i + 1) (by omega) t ht
theorem few_G {α : Type} (g : Nat → α → List Tell) (hg : ∀ i x, (g i x).length ≤ 1 ∧ ∀ t ∈ g i x, t.1 = i) (l : List α) (hl : l.length ≤ 64) : FewT 64 (tellG g 0 l) := by
  refine ⟨?_, tellG_mem (fun i x => (hg i x).2) l 0 (by omega)⟩
  have := tellG_len g 1 (fun i x => (hg i x).1) 0 l
  omega
theorem one_if (b : Bool) (i : Nat) (s : ByteArray) : (if b = true then [((i, s) : Tell)] else []).length ≤ 1 ∧ ∀ t ∈ (if b = true then [((i, s) : Tell)] else []), t.1 = i := by
  cases b <;> simp
theorem firstW_lt {α : Type} {g : Nat → α → Bool} : ∀ {l : List α} {i k : Nat}, firstW g i l = some k → k < i + l.length
  | [], _, _, h => by cases h
  | x :: l, i, k, h => by
    unfold firstW at h
    split at h
    · cases h
      rw [List.length_cons]
      omega
    · have := firstW_lt h
      rw [List.length_cons]
      omega
def ValB (B : Nat) (m : AL Nat) : Prop := ∀ p ∈ m, p.2 ≤ B
theorem val_T (at_ : Nat) : ∀ (ts : List K.Term) (s : AL Nat × AL Nat) (B : Nat), at_ ≤ B → ValB B s.2 → ValB B (occT at_ s ts).2
  | [], _, _, _, h => h
  | t :: ts, s, B, ha, h => by
    refine val_T at_ ts (occ1 at_ s t) B ha ?_
    unfold occ1
    split
    · intro p hp
      have hp : p ∈ K.putA s.2 t.text at_ := hp
      rw [putA_eq] at hp
      rcases putL_vals hp with hp | hp
      · exact h p hp
      · rw [hp]; exact ha
    · exact h
theorem val_B : ∀ (ls : List K.Lit) (i : Nat) (s : AL Nat × AL Nat) (B : Nat), i + ls.length ≤ B → ValB B s.2 → ValB B (occB i s ls).2
  | [], _, _, _, _, h => h
  | l :: ls, i, s, B, hi, h => by
    rw [List.length_cons] at hi
    refine val_B ls (i + 1) (occL i s l) B (by omega) ?_
    unfold occL
    split
    · exact val_T i _ s B (by omega) h
    · exact val_T i _ s B (by omega) h
theorem few_4 (r : Rule) (hm : K.mayRule r = 0) : FewT 5000 (look4 r) := by
  obtain ⟨f1, f2, f3⟩ := may_few hm
  unfold look4
  split
  · exact few_nil _
  · refine ⟨?_, fun t ht => ?_⟩
    · unfold lonT
      rw [List.length_map]
      refine Nat.le_trans (List.length_filter_le _ _) ?_
      rw [List.length_map]
      have h0 := (OcB.all (at_ := 0) (ts := r.head.terms) (B := 0) (s := ([], [])) ⟨by simp, by simp⟩)
      have h1 := (OcB.lits r.body 0 _ _ h0 f3).2
      unfold occR
      omega
    · unfold lonT at ht
      obtain ⟨p, _, rfl⟩ := List.mem_map.1 ht
      have hv : ValB 1000000000 (occR r).2 := val_B r.body 0 _ _ (by omega) (val_T 0 _ _ _ (by omega) (fun p hp => by cases hp))
      show (K.lookA (occR r).2 p.1).getD 0 ≤ _
      rw [lookA_eq]
      cases hg : getL (occR r).2 p.1 with
      | none => exact Nat.zero_le _
      | some v =>
        obtain ⟨p', h1, h2⟩ := getL_mem hg
        rw [← h2]
        exact hv p' h1
theorem looks_few (rs : List Rule) (given wanted : List ByteArray) (n : Nat) (r : Rule) (hm : K.mayRule r = 0) (hrs : rs.length ≤ 1000000000) : ∀ p ∈ looksT rs given wanted n r, FewT 5000 p.2 ∧ 0 ≤ p.1 ∧ p.1 ≤ 100 := fun p hp => by
  obtain ⟨f1, f2, f3⟩ := may_few hm
  have up : ∀ {c : Nat} {G : List Tell}, FewT c G → c ≤ 5000 → FewT 5000 G := fun h hc => ⟨Nat.le_trans h.1 hc, h.2⟩
  simp only [looksT, List.mem_cons, List.not_mem_nil, or_false] at hp
  rcases hp with rfl | rfl | rfl | rfl | rfl | rfl | rfl | rfl | rfl
  · exact ⟨up (few_idx _ _ (by omega)) (by omega), (by dsimp only; omega), (by dsimp only; omega)⟩
  · exact ⟨up (few_G _ (fun i x => one_if _ _ _) _ f2) (by omega), (by dsimp only; omega), (by dsimp only; omega)⟩
  · exact ⟨up (few_G _ (fun i x => one_if _ _ _) _ f2) (by omega), (by dsimp only; omega), (by dsimp only; omega)⟩
  · exact ⟨few_4 r hm, (by dsimp only; omega), (by dsimp only; omega)⟩
  · exact ⟨up (few_G _ (fun i x => one_if _ _ _) _ f2) (by omega), (by dsimp only; omega), (by dsimp only; omega)⟩
  · exact ⟨up (few_idx _ _ (by have := List.length_take_le' n rs; omega)) (by omega), (by dsimp only; omega), (by dsimp only; omega)⟩
  · refine ⟨?_, (by dsimp only; omega), (by dsimp only; omega)⟩
    show FewT 5000 (lookW rs n r)
    unfold lookW
    split
    · exact up (few_O _ (fun i hi => by have := firstW_lt hi; omega)) (by omega)
    · exact few_nil _
  · exact ⟨up (few_idx _ _ (by omega)) (by omega), (by dsimp only; omega), (by dsimp only; omega)⟩
  · refine ⟨?_, (by dsimp only; omega), (by dsimp only; omega)⟩
    show FewT 5000 (look9 wanted (askedV rs wanted) r)
    unfold look9
    split
    · exact ⟨by simp, fun t ht => by rw [List.mem_singleton.1 ht]; exact Nat.zero_le _⟩
    · exact few_nil _
theorem ruleF_few (rs : List Rule) (given wanted : List ByteArray) (n : Nat) (r : Rule) (hm : K.mayRule r = 0) (hrs : rs.length ≤ 1000000000) (hn : n ≤ 1000000000) : (∀ x ∈ ruleF rs given wanted n r, okF x) ∧ ∀ j, (((looksT rs given wanted n r).take j).flatMap fun p => p.2.map (mkF p.1 n)).length ≤ 45000 := by
  have L := looks_few rs given wanted n r hm hrs
  refine ⟨fun x hx => ?_, fun j => ?_⟩
  · obtain ⟨p, hp, hx⟩ := List.mem_flatMap.1 hx
    obtain ⟨t, ht, rfl⟩ := List.mem_map.1 hx
    obtain ⟨h1, h2, h3⟩ := L p hp
    exact ⟨h2, h3, hn, h1.2 t ht⟩
  · have : ∀ l : List (Int × List Tell), (∀ p ∈ l, FewT 5000 p.2) → (l.flatMap fun p => p.2.map (mkF p.1 n)).length ≤ l.length * 5000 := by
      intro l
      induction l with
      | nil => intro _; simp
      | cons p l ih =>
        intro h
        have h1 := ih (fun q hq => h q (List.mem_cons_of_mem _ hq))
        have h2 := (h p (List.mem_cons_self ..)).1
        rw [List.flatMap_cons, List.length_append, List.length_map, List.length_cons, Nat.succ_mul]
        omega
    have h1 := this ((looksT rs given wanted n r).take j) (fun p hp => (L p (List.mem_of_mem_take hp)).1)
    have h2 := List.length_take_le' j (looksT rs given wanted n r)
    have h3 : (looksT rs given wanted n r).length = 9 := rfl
    omega
end Go.Proofs.YtlalgaioiapjmaaGreatDoor
