/- The walk of slices.Compare at two pairs of numbers, and of the closure that orders edges. The walk of the closure that orders edges. slices.SortFunc at edges. The maps of strata.weave: names to numbers, pairs of names to weights. -/
import Derived.Test.YtlalgaioiapjmaaGreatDoorG5
import Derived.Shelf.SlicesG.Cmp
import Derived.Ground.SlgcProg
import Derived.Shelf.SlSortCmp.WholeK
import Derived.Shelf.SlGeneric
import Derived.Ground.SlsfProg
namespace Go.Proofs.YtlalgaioiapjmaaGreatDoor
open Go.ChangeShapes Go.WideShapes Go.ChangeAt Go.RowKit Go.Shelf
def Tryz.cmpInt_ren : Go.Shelf.Ren := ⟨fun | 5 => 99 | 7 => 134 | n => n, fun | 22 => 3 | 3 => 3 | 4 => 4 | n => n, fun | n => n⟩
theorem Tryz.cmpInt : Go.Proofs.SlLaysC2.n5 Tryz.prog Tryz.cmpInt_ren := {
  mixed := by kernel_rfl, f5 := ⟨Tryz.f99.name, by decide, Tryz.func99.trans (congrArg some (by kernel_rfl))⟩, f7 := ⟨Tryz.f134.name, by decide, Tryz.func134.trans (congrArg some (by kernel_rfl))⟩, t3 := Tryz.underlying3, a3 := Tryz.isAgg3, z3 := Tryz.sizeOf3, v3 := Tryz.zeroValue3, t4 := Tryz.underlying4,
  a4 := Tryz.isAgg4, z4 := Tryz.sizeOf4, v4 := Tryz.zeroValue4, t22 := Tryz.underlying3, a22 := Tryz.isAgg3, z22 := Tryz.sizeOf3, v22 := Tryz.zeroValue3 }
theorem c_cmpInt (x y : Int) (W : World) : Calls Tryz.prog 99 #[.int .i64 x, .int .i64 y] W fun e w' => e = .returned (.int .i64 (Lib.compareInt x y)) ∧ w' = W := by
  have hcon := AnyG.cmp_Compare_int Tryz.cmpInt x y W
  refine Calls.mono hcon ?_
  rintro e w' ⟨rfl, rfl⟩
  exact ⟨rfl, rfl⟩
/-- How two pairs of numbers stand to each other. -/
def cmp2 (a b c d : Int) : Int := if Lib.compareInt a c ≠ 0 then Lib.compareInt a c else Lib.compareInt b d
set_option maxHeartbeats 1000000 in
theorem c_comp2 (a b c d : Int) (p q : Nat) (W : World) (h0 : W.cell? ⟨p, 0, none⟩ = some (.int .i64 a)) (h1 : W.cell? ⟨p, 1, none⟩ = some (.int .i64 b)) (h2 : W.cell? ⟨q, 0, none⟩ = some (.int .i64 c)) (h3 : W.cell? ⟨q, 1, none⟩ = some (.int .i64 d)) :
    Calls Tryz.prog 64 #[.slice (some ⟨p, 0, none⟩) 2 2, .slice (some ⟨q, 0, none⟩) 2 2] W fun e w' => e = .returned (.int .i64 (cmp2 a b c d)) ∧ w' = W := by
  have C1 := Lib.hid (c_cmpInt a c W)
  have C2 := Lib.hid (c_cmpInt b d W)
  obtain ⟨r, hr⟩ : ∃ r, Lib.compareInt a c = r := ⟨_, rfl⟩
  obtain ⟨s, hs⟩ : ∃ s, Lib.compareInt b d = s := ⟨_, rfl⟩
  rw [hr] at C1
  rw [hs] at C2
  have HZ : Hid (cmp2 a b c d = if r ≠ 0 then r else s) := by show _ = _; unfold cmp2; rw [hr, hs]
  clear hr hs
  by_cases z1 : r = 0
  · subst z1
    have HZ2 : Hid (cmp2 a b c d = s) := by have := HZ.out; rwa [if_neg (by simp)] at this
    clear HZ
    by_cases z2 : s = 0
    · subst z2
      go_enter Tryz.func64, Tryz.ntmps64
      go_wp2
      refine wp_loop_rounds 3 ?_
      rw [rounds_succ]
      go_wp2_with (go_at_call 99; (with_reducible refine C1.out.mono ?_); rintro e w1 ⟨rfl, hw1⟩; obtain rfl := hw1.symm)
      rw [rounds_succ]
      go_wp2_with (go_at_call 99; (with_reducible refine C2.out.mono ?_); rintro e w1 ⟨rfl, hw1⟩; obtain rfl := hw1.symm)
      rw [rounds_succ]
      go_wp2
      go_returns
      exact ⟨by rw [HZ2.out]; rfl, rfl⟩
    · have z2b : (s != 0) = true := by simpa using z2
      clear z2
      go_enter Tryz.func64, Tryz.ntmps64
      go_wp2
      refine wp_loop_rounds 3 ?_
      rw [rounds_succ]
      go_wp2_with (go_at_call 99; (with_reducible refine C1.out.mono ?_); rintro e w1 ⟨rfl, hw1⟩; obtain rfl := hw1.symm)
      rw [rounds_succ]
      go_wp2_with (go_at_call 99; (with_reducible refine C2.out.mono ?_); rintro e w1 ⟨rfl, hw1⟩; obtain rfl := hw1.symm)
      go_returns
      exact ⟨by rw [HZ2.out]; rfl, rfl⟩
  · have z1b : (r != 0) = true := by simpa using z1
    have HZ2 : Hid (cmp2 a b c d = r) := by have := HZ.out; rwa [if_pos z1] at this
    clear z1 HZ
    go_enter Tryz.func64, Tryz.ntmps64
    go_wp2
    refine wp_loop_rounds 3 ?_
    rw [rounds_succ]
    go_wp2_with (go_at_call 99; (with_reducible refine C1.out.mono ?_); rintro e w1 ⟨rfl, hw1⟩; obtain rfl := hw1.symm)
    go_returns
    exact ⟨by rw [HZ2.out]; rfl, rfl⟩
end Go.Proofs.YtlalgaioiapjmaaGreatDoor
namespace Go.Proofs.YtlalgaioiapjmaaGreatDoor
open Go.ChangeShapes Go.WideShapes Go.ChangeAt Go.RowKit Go.Shelf Go.Lib Go.Sort
set_option maxHeartbeats 1000000 in
theorem c_weave1 (a b x c d y : Int) (W : World) :
    Calls Tryz.prog 63 #[.agg #[.int .i64 a, .int .i64 b, .int .i64 x], .agg #[.int .i64 c, .int .i64 d, .int .i64 y]] W fun e w' => e = .returned (.int .i64 (cmp2 a b c d)) ∧ ∃ q os', w' = grow (W.drewN q) os' := by
  have CC : Hid (∀ p q W, W.cell? ⟨p, 0, none⟩ = some (.int .i64 a) → W.cell? ⟨p, 1, none⟩ = some (.int .i64 b) → W.cell? ⟨q, 0, none⟩ = some (.int .i64 c) → W.cell? ⟨q, 1, none⟩ = some (.int .i64 d) → Calls Tryz.prog 64 #[.slice (some ⟨p, 0, none⟩) 2 2, .slice (some ⟨q, 0, none⟩) 2 2] W fun e w' => e = .returned (.int .i64 (cmp2 a b c d)) ∧ w' = W) := fun p q W => c_comp2 a b c d p q W
  go_enter Tryz.func63, Tryz.ntmps63
  go_wp2_with (go_at_call 64; (with_reducible refine (CC.out _ _ _ (by go_simp) (by go_simp) (by go_simp) (by go_simp)).mono ?_); rintro e w1 ⟨rfl, hw1⟩; obtain rfl := hw1.symm)
  go_returns
  exact ⟨rfl, 0, _, by simp only [alloc_eq_grow, grow_grow]; rfl⟩
end Go.Proofs.YtlalgaioiapjmaaGreatDoor
namespace Go.Proofs.YtlalgaioiapjmaaGreatDoor
open Go.ChangeShapes Go.WideShapes Go.ChangeAt Go.RowKit Go.Shelf Go.Lib Go.Sort
def Tryz.sortE_ren : Go.Shelf.Ren := ⟨fun | 6 => 62 | 15 => 55 | 14 => 98 | 28 => 90 | 29 => 91 | 20 => 126 | 21 => 127 | 22 => 128 | 23 => 129 | 24 => 130 | 25 => 131 | 26 => 132 | 27 => 133 | 46 => 158 | 47 => 112 | 48 => 113 | 49 => 159 | 50 => 160 | 57 => 169 | n => n, fun | 22 => 80 | 24 => 110 | 25 => 113 | 3 => 3 | 39 => 98 | 0 => 0 | 53 => 139 | 55 => 141 | 4 => 4 | 46 => 132 | 45 => 131 | 50 => 136 | 5 => 5 | 9 => 9 | 66 => 168 | 70 => 172 | 76 => 206 | 77 => 207 | n => n, fun | n => n⟩
theorem Tryz.sortE : Go.Proofs.SlLaysF0.n6 Tryz.prog Tryz.sortE_ren := {
  mixed := by kernel_rfl, f6 := ⟨Tryz.f62.name, by decide, Tryz.func62.trans (congrArg some (by kernel_rfl))⟩, f14 := ⟨Tryz.f98.name, by decide, Tryz.func98.trans (congrArg some (by kernel_rfl))⟩, f15 := Tryz.func55.trans (congrArg some (by kernel_rfl)), f20 := ⟨Tryz.f126.name, by decide, Tryz.func126.trans (congrArg some (by kernel_rfl))⟩, f21 := ⟨Tryz.f127.name, by decide, Tryz.func127.trans (congrArg some (by kernel_rfl))⟩, f22 := ⟨Tryz.f128.name, by decide, Tryz.func128.trans (congrArg some (by kernel_rfl))⟩, f23 := ⟨Tryz.f129.name, by decide, Tryz.func129.trans (congrArg some (by kernel_rfl))⟩,
  f24 := ⟨Tryz.f130.name, by decide, Tryz.func130.trans (congrArg some (by kernel_rfl))⟩, f25 := ⟨Tryz.f131.name, by decide, Tryz.func131.trans (congrArg some (by kernel_rfl))⟩, f26 := ⟨Tryz.f132.name, by decide, Tryz.func132.trans (congrArg some (by kernel_rfl))⟩, f27 := ⟨Tryz.f133.name, by decide, Tryz.func133.trans (congrArg some (by kernel_rfl))⟩, f28 := Tryz.func90.trans (congrArg some (by kernel_rfl)), f29 := Tryz.func91.trans (congrArg some (by kernel_rfl)), f46 := ⟨Tryz.f158.name, by decide, Tryz.func158.trans (congrArg some (by kernel_rfl))⟩, f47 := Tryz.func112.trans (congrArg some (by kernel_rfl)),
  f48 := Tryz.func113.trans (congrArg some (by kernel_rfl)), f49 := ⟨Tryz.f159.name, by decide, Tryz.func159.trans (congrArg some (by kernel_rfl))⟩, f50 := ⟨Tryz.f160.name, by decide, Tryz.func160.trans (congrArg some (by kernel_rfl))⟩, f57 := ⟨Tryz.f169.name, by decide, Tryz.func169.trans (congrArg some (by kernel_rfl))⟩, t0 := Tryz.underlying0, a0 := Tryz.isAgg0, z0 := Tryz.sizeOf0, v0 := Tryz.zeroValue0,
  t3 := Tryz.underlying3, a3 := Tryz.isAgg3, z3 := Tryz.sizeOf3, v3 := Tryz.zeroValue3, t4 := Tryz.underlying4, a4 := Tryz.isAgg4, z4 := Tryz.sizeOf4, v4 := Tryz.zeroValue4,
  t5 := Tryz.underlying5, a5 := Tryz.isAgg5, z5 := Tryz.sizeOf5, v5 := Tryz.zeroValue5, t9 := Tryz.underlying9, a9 := Tryz.isAgg9, z9 := Tryz.sizeOf9, v9 := Tryz.zeroValue9,
  t22 := Tryz.underlying80, a22 := Tryz.isAgg80, z22 := Tryz.sizeOf80, v22 := Tryz.zeroValue80, t25 := Tryz.underlying113, a25 := Tryz.isAgg113, z25 := Tryz.sizeOf113, v25 := Tryz.zeroValue113,
  t39 := Tryz.underlying98, a39 := Tryz.isAgg98, z39 := Tryz.sizeOf98, v39 := Tryz.zeroValue98, t45 := Tryz.underlying131, a45 := Tryz.isAgg131, z45 := Tryz.sizeOf131, v45 := Tryz.zeroValue131,
  t46 := Tryz.underlying132, a46 := Tryz.isAgg132, z46 := Tryz.sizeOf132, v46 := Tryz.zeroValue132, t50 := Tryz.underlying136, a50 := Tryz.isAgg136, z50 := Tryz.sizeOf136, v50 := Tryz.zeroValue136,
  t53 := Tryz.underlying139, a53 := Tryz.isAgg139, z53 := Tryz.sizeOf139, v53 := Tryz.zeroValue139, t55 := Tryz.underlying141, a55 := Tryz.isAgg141, z55 := Tryz.sizeOf141, v55 := Tryz.zeroValue141,
  t66 := Tryz.underlying168, a66 := Tryz.isAgg168, z66 := Tryz.sizeOf168, v66 := Tryz.zeroValue168, t70 := Tryz.underlying172, a70 := Tryz.isAgg172, z70 := Tryz.sizeOf172, v70 := Tryz.zeroValue172,
  t76 := Tryz.underlying206, a76 := Tryz.isAgg206, z76 := Tryz.sizeOf206, v76 := Tryz.zeroValue206, t77 := Tryz.underlying207, a77 := Tryz.isAgg207, z77 := Tryz.sizeOf207, v77 := Tryz.zeroValue207 }
instance : Inhabited K.Edge := ⟨⟨0, 0, 0⟩⟩
def encE (e : K.Edge) : List Value := [.int .i64 e.src, .int .i64 e.dst, .int .i64 e.wt]
def cmpE (x y : K.Edge) : Int := cmp2 x.src x.dst y.src y.dst
theorem ltE_eq (x y : K.Edge) : ltOf cmpE x y = (decide (x.src < y.src) || (decide (x.src = y.src) && decide (x.dst < y.dst))) := by
  unfold ltOf cmpE cmp2 Lib.compareInt
  rcases Int.lt_trichotomy x.src y.src with h | h | h
  · simp [h]
  · rcases Int.lt_trichotomy x.dst y.dst with k | k | k
    · simp [h, k]
    · simp [h, k]
    · have : ¬ x.dst < y.dst := by omega
      simp [h, k, this]
  · have h1 : ¬ x.src < y.src := by omega
    have h2 : ¬ x.src = y.src := by omega
    simp [h, h1, h2]
theorem swoE : SWO (ltOf cmpE) where
  irrefl x := by rw [ltE_eq]; simp
  trans x y z h1 h2 := by rw [ltE_eq] at *; simp at *; omega
  ntrans x y z h1 h2 := by rw [ltE_eq] at *; simp at *; omega
theorem cmpLaysE (blk off size : Nat) (w : World) : CmpLays Tryz.prog 63 #[] encE 3 cmpE blk off size w :=
  fun _ _ _ _ x y => c_weave1 x.src x.dst x.wt y.src y.dst y.wt _
theorem c_sortE (blk off cap : Nat) (d : Array K.Edge) (w : World) (hH : HoldsK encE 3 w blk off d) (hblk : blk < w.heap.size) (hsz : d.size < 4611686018427387904) :
    Calls Tryz.prog 62 #[.slice (some ⟨blk, off, none⟩) d.size cap, .func (.func 63) #[] #[]] w fun e w' => e = .returned (.tuple #[]) ∧ ∃ d' n os, PermIn 0 d.size d d' ∧ SortedIn (ltOf cmpE) 0 d.size d' ∧ w' = sortWorldK encE 3 w blk off n d' os :=
  AnyQ.slices_SortFunc Tryz.sortE 3 Tryz.isAgg110 Tryz.sizeOf110 encE (fun _ => rfl) (fun x v hv => by simp [encE] at hv; rcases hv with rfl | rfl | rfl <;> rfl) cmpE swoE 63 #[] blk off cap d w (enters_of Tryz.func63 (by kernel_rfl) rfl) (cmpLaysE blk off d.size w) hH hblk hsz
end Go.Proofs.YtlalgaioiapjmaaGreatDoor
namespace Go.Proofs.YtlalgaioiapjmaaGreatDoor
open Go.ChangeShapes Go.WideShapes Go.ChangeAt Go.RowKit
open K (AL Rule)
abbrev okP (p : ByteArray × ByteArray) : Prop := p.1.size ≤ maxLen ∧ p.2.size ≤ maxLen
abbrev PL := List ((ByteArray × ByteArray) × Nat)
/-- A map from pairs of texts to numbers. -/
def PMap (w : World) (b : Nat) (a : PL) : Prop := LMap pairV okP w b (a.map fun p => (p.1, numV p.2))
theorem PMap.get {w : World} {b : Nat} {a : PL} (h : PMap w b a) {t : TypeId} (ht : Tryz.prog.underlying t = some (.map 104 3)) (k : ByteArray × ByteArray) (hk : okP k) :
    (Instr.lookup t (.map (some b)) (.agg #[.string k.1, .string k.2]) false).run Tryz.prog w = .ok (.int .i64 ((getL a k).getD 0 : Nat)) w := by
  have q := LMap.look (P := Tryz.prog) h pairEnc ht (zero_int w) k hk false
  rw [getL_map] at q
  refine Eq.trans q ?_
  cases getL a k <;> rfl
theorem PMap.set {w : World} {b : Nat} {a : PL} (h : PMap w b a) {t : TypeId} (ht : Tryz.prog.underlying t = some (.map 104 3)) (k : ByteArray × ByteArray) (hk : okP k) (n : Nat) :
    ∃ o, (Instr.mapUpdate t (.map (some b)) (.agg #[.string k.1, .string k.2]) (.int .i64 (n : Nat))).run Tryz.prog w = .ok () (K.setMap w b o) ∧ PMap (K.setMap w b o) b (putL a k n) := by
  obtain ⟨o, h1, h2⟩ := LMap.upd (P := Tryz.prog) h pairEnc ht k hk (numV n)
  refine ⟨o, h1, ?_⟩
  unfold PMap
  rw [← putL_map]
  exact h2
end Go.Proofs.YtlalgaioiapjmaaGreatDoor
