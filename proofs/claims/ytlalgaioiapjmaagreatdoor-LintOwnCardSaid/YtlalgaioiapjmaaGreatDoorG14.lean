/- The search for parts in memory; the walks of (*graph.walk).meet and close. The walk of (*graph.walk).close: the open nodes behind a node are a part. The state of the search from one node: what a step makes of it, and the nodes under way in memory. -/
import Derived.Test.YtlalgaioiapjmaaGreatDoorG13
import Derived.StillTailTactics
import Derived.Deep.LoopGhost
namespace Go.Proofs.YtlalgaioiapjmaaGreatDoor
open Go.ChangeShapes Go.WideShapes Go.ChangeAt Go.RowKit
open K (adj WSt meetS closeS)
def optV (o : Option Nat) : Value := .int .i64 (match o with | some a => (a : Int) | none => -1)
abbrev topV (n gb mb lb pb : Nat) (s : WSt) (a : Option Addr) (c : Nat) : List Value :=
  [.slice (some ⟨gb, 0, none⟩) n n, .slice (some ⟨mb, 0, none⟩) n n, .slice (some ⟨lb, 0, none⟩) n n, .slice (some ⟨pb, 0, none⟩) n n, .slice a s.opn.length c, .int .i64 (s.met0 : Int), .int .i64 (s.all : Int)]
structure WalkV (B2 n wb gb mb lb pb : Nat) (s : WSt) (w : World) : Prop where
  hi : wb < B2 ∧ mb < B2 ∧ lb < B2 ∧ pb < B2
  ne : mb ≠ lb ∧ mb ≠ pb ∧ lb ≠ pb
  sz : B2 ≤ w.heap.size
  top : ∃ a c, Blk w wb 154 (topV n gb mb lb pb s a c) ∧ w.ownsRow B2 3 1 (.slice a s.opn.length c) s.opn.length (s.opn.reverse.map numV)
  met : Blk w mb 3 (s.met.map numV)
  low : Blk w lb 3 (s.low.map numV)
  part : Blk w pb 3 (s.part.map optV)
/-- What the search may write. -/
abbrev WS (B2 wb mb lb pb : Nat) : Nat → Prop := fun b => B2 ≤ b ∨ b = wb ∨ b = mb ∨ b = lb ∨ b = pb
/-- What it writes: nothing else, and no frames. -/
def WMv (B2 wb mb lb pb : Nat) (w w' : World) : Prop := ButS (WS B2 wb mb lb pb) w w' ∧ ∀ v n xs, w.ownsRow B2 191 2 v n xs → w'.ownsRow B2 191 2 v n xs
section
variable {B2 wb mb lb pb : Nat} {w x y : World}
theorem WMv.refl (w : World) : WMv B2 wb mb lb pb w w := ⟨ButS.refl _ _, fun _ _ _ h => h⟩
theorem WMv.trans (h : WMv B2 wb mb lb pb w x) (k : WMv B2 wb mb lb pb x y) : WMv B2 wb mb lb pb w y := ⟨h.1.trans k.1, fun v n xs q => k.2 v n xs (h.2 v n xs q)⟩
theorem WMv.ext (h : WMv B2 wb mb lb pb w x) (e : Ext x y) : WMv B2 wb mb lb pb w y := ⟨h.1.ext e, fun v n xs q => up_ext (h.2 v n xs q) e⟩
theorem WMv.set (h : WMv B2 wb mb lb pb w x) {b : Nat} {t : TypeId} (ht : Ty x b t) (hne : t ≠ 191) (hb : WS B2 wb mb lb pb b) (o : Nat) (v : Value) : WMv B2 wb mb lb pb w (x.setCell ⟨b, o, none⟩ v) :=
  ⟨h.1.set (.inl hb) o v, fun _ _ _ q => own_set_other (h.2 _ _ _ q) (by
    cases hx : Value.ownBlock _ with
    | none => exact .inl rfl
    | some c => exact .inr fun e => (own_ty (h.2 _ _ _ q) hx).ne ht (Ne.symm hne) (Option.some.inj e)) _⟩
theorem WMv.grown (h : WMv B2 wb mb lb pb w x) {v : Value} {n s : Nat} {e : TypeId} {xs : List Value} (ho : x.ownsRow B2 e s v n xs) (hne : e ≠ 191) (g : x.grownBy y v.ownBlock) : WMv B2 wb mb lb pb w y :=
  ⟨h.1.grown g (fun b e => .inl (.inl (ho.lt b e).1)), fun _ _ _ q => (h.2 _ _ _ q).kept g (own_apart (h.2 _ _ _ q) ho (Ne.symm hne))⟩
end
theorem WalkV.ext {B2 n wb gb mb lb pb : Nat} {s : WSt} {w w' : World} (h : WalkV B2 n wb gb mb lb pb s w) (e : Ext w w') : WalkV B2 n wb gb mb lb pb s w' := by
  obtain ⟨a, c, h1, h2⟩ := h.top
  exact ⟨h.hi, h.ne, Nat.le_trans h.sz e.size, ⟨a, c, h1.ext e, up_ext h2 e⟩, h.met.ext e, h.low.ext e, h.part.ext e⟩
theorem map_at {α : Type} {l : List α} {i : Nat} {d : α} (f : α → Value) (hi : i < l.length) : (l.map f)[i]? = some (f (l.getD i d)) := by
  rw [List.getElem?_map, List.getElem?_eq_getElem hi, List.getD_eq_getElem?_getD, List.getElem?_eq_getElem hi]
  rfl
theorem map_set' {α : Type} (l : List α) (i : Nat) (x : α) (f : α → Value) : (l.map f).set i (f x) = (l.set i x).map f := by
  apply List.ext_getElem?
  intro j
  simp only [List.getElem?_set, List.getElem?_map, List.length_map]
  split
  · split <;> simp_all
  · rfl
set_option maxRecDepth 100000 in
set_option maxHeartbeats 4000000 in
theorem c_meet (B2 n wb gb mb lb pb : Nat) (s : WSt) (v : Nat) (w : World) (h : WalkV B2 n wb gb mb lb pb s w) (hv : v < n) (hm : s.met.length = n) (hl : s.low.length = n) (h0 : s.met0 ≤ 1000000000000) (ho : s.opn.length ≤ 2000000) :
    Calls Tryz.prog 135 #[.pointer (some ⟨wb, 0, none⟩), .int .i64 (v : Int)] w fun e w' => e = .returned (.tuple #[]) ∧ WalkV B2 n wb gb mb lb pb (meetS s v) w' ∧ WMv B2 wb mb lb pb w w' := by
  obtain ⟨a, c, hT, hR⟩ := h.top
  have H := Lib.hid h
  have c5 := hT.cell (i := 5) rfl
  have f5 := hT.free 5
  have r1 : IntKind.i64.wrap ((s.met0 : Int) + 1) = (s.met0 : Int) + 1 := by rw [IntKind.wrap_i64]; omega
  have HT := Lib.hid hT
  have HR := Lib.hid hR
  have hwm : wb ≠ mb := hT.ty.ne h.met.ty (by decide)
  have hwl : wb ≠ lb := hT.ty.ne h.low.ty (by decide)
  have hwp : wb ≠ pb := hT.ty.ne h.part.ty (by decide)
  have hml := h.ne.1
  clear h hT hR
  go_enter Tryz.func135, Tryz.ntmps135
  go_upto_region 1 with (fail)
  refine wp_gen (fun W hW => ?_)
  obtain ⟨m1, hm1⟩ : ∃ m1 : Nat, m1 = s.met0 + 1 := ⟨_, rfl⟩
  have hmi : (s.met0 : Int) + 1 = (m1 : Int) := by omega
  rw [hmi] at hW r1 ⊢
  have T1 : Blk W wb 154 (topV n gb mb lb pb { s with met0 := m1 } a c) := by rw [hW]; exact HT.out.set 5 _
  have M1 : Blk W mb 3 (s.met.map numV) := by rw [hW]; exact H.out.met.other (Ne.symm hwm) _
  have L1 : Blk W lb 3 (s.low.map numV) := by rw [hW]; exact H.out.low.other (Ne.symm hwl) _
  have P1 : Blk W pb 3 (s.part.map optV) := by rw [hW]; exact H.out.part.other (Ne.symm hwp) _
  have R1 : W.ownsRow B2 3 1 (.slice a s.opn.length c) s.opn.length (s.opn.reverse.map numV) := by
    rw [hW]
    refine own_set_other HR.out ?_ _
    cases hx : Value.ownBlock (.slice a s.opn.length c) with
    | none => exact .inl rfl
    | some x => exact .inr fun e => (own_ty HR.out hx).ne HT.out.ty (by decide) (Option.some.inj e)
  have V1 : WMv B2 wb mb lb pb w W := by rw [hW]; exact (WMv.refl _).set HT.out.ty (by decide) (.inr (.inl rfl)) _ _
  have Z1 : B2 ≤ W.heap.size := by rw [hW]; simpa using H.out.sz
  clear hW c5 f5
  have x1 := T1.cell (i := 1) rfl
  have x2 := T1.cell (i := 2) rfl
  have x5 : W.cell? ⟨wb, 5, none⟩ = some (.int .i64 (m1 : Int)) := T1.cell (i := 5) rfl
  have y1 : W.drew.cell? ⟨mb, v, none⟩ = some (numV (s.met.getD v 0)) := M1.cell (map_at numV (by omega))
  have y2 : W.drew.frozen? ⟨mb, v, none⟩ = false := M1.free v
  have L2 : Blk (W.setCell ⟨mb, v, none⟩ (.int .i64 (m1 : Int))) lb 3 (s.low.map numV) := L1.other (Ne.symm hml) _
  have T2 : Blk (W.setCell ⟨mb, v, none⟩ (.int .i64 (m1 : Int))) wb 154 (topV n gb mb lb pb { s with met0 := m1 } a c) := T1.other hwm _
  have T3 := T2.other (p := ⟨lb, v, none⟩) hwl (.int .i64 (m1 : Int))
  have y3 := L2.cell (i := v) (map_at numV (d := 0) (by omega))
  have y4 := L2.free v
  have x1a := T2.cell (i := 1) rfl
  have x2a := T2.cell (i := 2) rfl
  have x5a : (W.setCell ⟨mb, v, none⟩ (.int .i64 (m1 : Int))).cell? ⟨wb, 5, none⟩ = some (.int .i64 (m1 : Int)) := T2.cell (i := 5) rfl
  have x1b := T3.cell (i := 1) rfl
  have x2b := T3.cell (i := 2) rfl
  have x5b : ((W.setCell ⟨mb, v, none⟩ (.int .i64 (m1 : Int))).setCell ⟨lb, v, none⟩ (.int .i64 (m1 : Int))).cell? ⟨wb, 5, none⟩ = some (.int .i64 (m1 : Int)) := T3.cell (i := 5) rfl
  have hvi : (v : Int) < (n : Int) := by omega
  have mixed : Tryz.prog.follows .mixedOrders = true := by kernel_rfl
  have HT1 := Lib.hid T1
  have HM1 := Lib.hid M1
  have HL1 := Lib.hid L1
  have HP1 := Lib.hid P1
  have HR1 := Lib.hid R1
  have HV1 := Lib.hid V1
  have HZ1 := Lib.hid Z1
  have HMM := Lib.hid hm1
  clear T1 M1 L1 P1 R1 V1 Z1 HT HR L2 T2 T3 hm1 hmi r1
  go_region_held3 (fun w' => w'.cell? ⟨wb, 1, none⟩ = some (.slice (some ⟨mb, 0, none⟩) n n) ∧ w'.cell? ⟨wb, 2, none⟩ = some (.slice (some ⟨lb, 0, none⟩) n n) ∧ w'.cell? ⟨wb, 5, none⟩ = some (.int .i64 (m1 : Int)))
    (first | go_keep | fail) (fail)
  go_upto_region 2 with (fail)
  refine wp_gen (fun W2 hW2 => ?_)
  obtain ⟨s2, hs2⟩ : ∃ s2 : WSt, s2 = { s with met0 := m1, met := s.met.set v m1, low := s.low.set v m1 } := ⟨_, rfl⟩
  have T4 : Blk W2 wb 154 (topV n gb mb lb pb s2 a c) := by
    rw [hW2, hs2]
    exact ((HT1.out.other hwm _).other hwl _).ext (ext_drew (Below.refl _ _))
  have M4 : Blk W2 mb 3 (s2.met.map numV) := by
    rw [hW2, hs2, ← map_set']
    exact ((HM1.out.set v _).other hml _).ext (ext_drew (Below.refl _ _))
  have L4 : Blk W2 lb 3 (s2.low.map numV) := by
    rw [hW2, hs2, ← map_set']
    exact ((HL1.out.other (Ne.symm hml) _).set v _).ext (ext_drew (Below.refl _ _))
  have P4 : Blk W2 pb 3 (s2.part.map optV) := by
    rw [hW2, hs2]
    exact ((HP1.out.other (p := ⟨mb, v, none⟩) (Ne.symm H.out.ne.2.1) _).other (p := ⟨lb, v, none⟩) (Ne.symm H.out.ne.2.2) _).ext (ext_drew (Below.refl _ _))
  have Z2 : B2 ≤ W2.heap.size := by rw [hW2]; simpa using HZ1.out
  have hlob : ∀ b, (Value.slice a s.opn.length c).ownBlock = some b → B2 ≤ b := fun b hb => (HR1.out.lt b hb).1
  have offb : ∀ x, x < B2 → (Value.slice a s.opn.length c).ownBlock = none ∨ (Value.slice a s.opn.length c).ownBlock ≠ some x := fun x hx => .inr (fun e => by have := hlob x e; omega)
  have R4 : W2.ownsRow B2 3 1 (.slice a s.opn.length c) s.opn.length (s.opn.reverse.map numV) := by
    rw [hW2]
    exact up_ext (own_set_other (own_set_other HR1.out (offb mb H.out.hi.2.1) _) (offb lb H.out.hi.2.2.1) _) (ext_drew (Below.refl _ _))
  have V4 : WMv B2 wb mb lb pb w W2 := by
    rw [hW2]
    exact ((HV1.out.set HM1.out.ty (by decide) (.inr (.inr (.inl rfl))) v _).set (HL1.out.other (p := ⟨mb, v, none⟩) (Ne.symm hml) _).ty (by decide) (.inr (.inr (.inr (.inl rfl)))) v _).ext (ext_drew (Below.refl _ _))
  have hnw : (Value.slice a s.opn.length c).ownBlock ≠ some wb := fun e => (own_ty R4 e).ne T4.ty (by decide) rfl
  have x4 : W2.cell? ⟨wb, 4, none⟩ = some (.slice a s.opn.length c) := by rw [T4.cell (i := 4) rfl, hs2]
  have HS2 := Lib.hid hs2
  clear hW2 hs2 x1 x2 x5 y1 y2 y3 y4 x1a x2a x5a x1b x2b x5b
  go_wp2_with (first
    | (at_builtin; refine wpList_push_int W2 (v : Int) B2 a s.opn.length c _ R4 ho Z2 rfl _ _ rfl rfl rfl ?_; intro g6 c6 w6 p1 p2 p3; have T6 := Blk.grown (T4.ext (ext_alloc (Below.refl _ _) _)) p2 hnw; have y6 := T6.cell (i := 4) rfl; have z6 := T6.free 4; have P6 := Lib.hid (And.intro p1 (And.intro p2 p3)); have HT6 := Lib.hid T6; clear p1 p2 p3 T6)
    | fail)
  go_end0
  obtain ⟨p1, p2, p3⟩ := P6.out
  have noff : ∀ x, x < B2 → (Value.slice a s.opn.length c).ownBlock ≠ some x := fun x hx e => by have := hlob x e; omega
  have ea : Ext W2 (W2.alloc (.cells #[.int .i64 (v : Int)] 3)) := ext_alloc (Below.refl _ _) _
  have hg6 : B2 ≤ g6 := (p1.lt g6 rfl).1
  have hms : meetS s v = { s2 with opn := v :: s.opn } := by
    rw [HS2.out, HMM.out]
    rfl
  have hT : Blk (w6.setCell ⟨wb, 4, none⟩ (.slice (some ⟨g6, 0, none⟩) (s.opn.length + 1) c6)) wb 154 (topV n gb mb lb pb (meetS s v) (some ⟨g6, 0, none⟩) c6) := by
    have := HT6.out.set 4 (.slice (some ⟨g6, 0, none⟩) (s.opn.length + 1) c6)
    rw [hms]
    exact this
  refine ⟨rfl, ⟨H.out.hi, H.out.ne, ?_, ⟨_, c6, hT, ?_⟩, ?_, ?_, ?_⟩, ?_⟩
  · have := p2.size
    simp at this ⊢
    omega
  · have q := own_set_other (a := ⟨wb, 4, none⟩) p1 (.inr (fun e => by cases e; have := H.out.hi; omega)) (.slice (some ⟨g6, 0, none⟩) (s.opn.length + 1) c6)
    simpa [meetS] using q
  · rw [hms]
    exact ((M4.ext ea).grown p2 (noff mb H.out.hi.2.1)).other (Ne.symm hwm) _
  · rw [hms]
    exact ((L4.ext ea).grown p2 (noff lb H.out.hi.2.2.1)).other (Ne.symm hwl) _
  · rw [hms]
    exact ((P4.ext ea).grown p2 (noff pb H.out.hi.2.2.2)).other (Ne.symm hwp) _
  · exact ((V4.ext ea).grown (R4.alloc _) (by decide) p2).set HT6.out.ty (by decide) (.inr (.inl rfl)) _ _
end Go.Proofs.YtlalgaioiapjmaaGreatDoor
namespace Go.Proofs.YtlalgaioiapjmaaGreatDoor
open Go.ChangeShapes Go.WideShapes Go.ChangeAt Go.RowKit
open K (adj WSt meetS closeS)
/-- The state while nodes are closed. -/
abbrev clS (s : WSt) (o : List Nat) (p : List (Option Nat)) : WSt := { s with opn := o, part := p }
def ClSt (B2 n wb gb mb lb pb v : Nat) (s : WSt) (w0 : World) (k : Nat) (w : World) : Prop :=
  ∃ o p, o.length ≤ k ∧ v ∈ o ∧ (∀ x ∈ o, x < n) ∧ p.length = n ∧ closeS o v p s.all = closeS s.opn v s.part s.all ∧ WalkV B2 n wb gb mb lb pb (clS s o p) w ∧ WMv B2 wb mb lb pb w0 w
set_option maxRecDepth 100000 in
set_option maxHeartbeats 4000000 in
theorem c_close (B2 n wb gb mb lb pb : Nat) (s : WSt) (v : Nat) (w : World) (h : WalkV B2 n wb gb mb lb pb s w) (hv : v ∈ s.opn) (ho : ∀ x ∈ s.opn, x < n) (hp : s.part.length = n) (ha : s.all ≤ 1000000000000) :
    Calls Tryz.prog 136 #[.pointer (some ⟨wb, 0, none⟩), .int .i64 (v : Int)] w fun e w' => e = .returned (.tuple #[]) ∧ WalkV B2 n wb gb mb lb pb { s with opn := (closeS s.opn v s.part s.all).1, part := (closeS s.opn v s.part s.all).2, all := s.all + 1 } w' ∧ WMv B2 wb mb lb pb w w' := by
  have ST : Hid (ClSt B2 n wb gb mb lb pb v s w s.opn.length w) := ⟨s.opn, s.part, Nat.le_refl _, hv, ho, hp, rfl, h, WMv.refl _⟩
  have HA := Lib.hid ha
  clear h hv ho hp ha
  go_enter Tryz.func136, Tryz.ntmps136
  go_wp2
  go_loopg [4] s.opn.length (fun g _ wr => ClSt B2 n wb gb mb lb pb v s w g wr)
  case atStart => exact ST.out
  case round =>
    clear ST
    obtain ⟨o, p, hk, hvo, hon, hpn, hcl, hV, hM⟩ := hrel
    cases o with
    | nil => cases hvo
    | cons x o =>
      obtain ⟨a, c, hT, hR⟩ := hV.top
      obtain ⟨k, hkl⟩ : ∃ k, o.length = k := ⟨_, rfl⟩
      have e1 : (clS s (x :: o) p).opn.length = k + 1 := by show (x :: o).length = _; simp [hkl]
      have hR2 : wr.ownsRow B2 3 1 (.slice a (k + 1) c) (k + 1) ((o.reverse.map numV) ++ [numV x]) := by
        rw [e1] at hR
        simpa using hR
      obtain ⟨g, c', hf, hc⟩ := own_formS hR2 (by omega)
      cases hf
      have hxc : wr.cell? ⟨g, k, none⟩ = some (numV x) := by
        have := hR2.cells (g := g) rfl k (numV x) (by rw [List.getElem?_append_right (by simp [hkl]), show k - (o.reverse.map numV).length = 0 by simp [hkl]]; rfl)
        rw [Addr.add_lit, Nat.zero_add] at this
        exact this
      have hT2 : Blk wr wb 154 [.slice (some ⟨gb, 0, none⟩) n n, .slice (some ⟨mb, 0, none⟩) n n, .slice (some ⟨lb, 0, none⟩) n n, .slice (some ⟨pb, 0, none⟩) n n, .slice (some ⟨g, 0, none⟩) (k + 1) c, .int .i64 (s.met0 : Int), .int .i64 (s.all : Int)] := by
        have := hT
        unfold topV at this
        rw [e1] at this
        exact this
      have hpop : wr.ownsRow B2 3 1 (.slice (some ⟨g, 0, none⟩) k c) k (o.reverse.map numV) := by
        have q := own_pop hR2
        rwa [Nat.mul_one, List.take_append_of_le_length (by simp [hkl]), List.take_of_length_le (by simp [hkl])] at q
      have hcm : c ≤ 9223372036854775807 := by
        have := (cap_of_own hR2)
        rcases hR2.2 with ⟨q, _⟩ | ⟨g', c', cur, q, _, _, _, q2, _⟩
        · cases q
        · cases q; exact q2
      have r1 : IntKind.i64.wrap (k : Int) = (k : Int) := by rw [IntKind.wrap_i64]; omega
      have r2 : (k : Int) ≤ (c : Int) := by omega
      have r3 : (k : Int) ≤ (k : Int) + 1 := by omega
      have hgB : B2 ≤ g := (hR2.lt g rfl).1
      have hgw : g ≠ wb := by have := hV.hi; omega
      have hxn := hon x (by simp)
      have hxi : (x : Int) < (n : Int) := by omega
      have y4 := hT2.cell (i := 4) rfl
      have HV := Lib.hid hV
      have HT := Lib.hid hT2
      have HP := Lib.hid hpop
      have HVO := Lib.hid hvo
      have HON := Lib.hid hon
      have HCL := Lib.hid hcl
      have HM := Lib.hid hM
      have HPN := Lib.hid hpn
      have HKL := Lib.hid hkl
      have HK := Lib.hid hk
      have NX : Hid (closeS (x :: o) v p s.all = if x = v then (o, p.set x (some s.all)) else closeS o v (p.set x (some s.all)) s.all) := by show _ = _; rw [closeS]
      clear hT hR hR2 hT2 hpop hvo hon hcl hM hV hpn hkl hk e1
      go_wp2
      go_quiet (fail)
      go_upto_region 1 with (fail)
      refine wp_gen (fun W hW => ?_)
      have E1 : Ext wr W := by rw [hW]; exact ext_drewN (Below.refl _ _) _
      clear hW
      have x4 := keep E1 y4
      have f4 := (HT.out.ext E1).free 4
      clear y4 hxc
      go_still_tail 12, (by kernel_rfl)
      change wpList _ _ _ _ _ W.drew
      go_upto_region 2 with (fail)
      refine wp_gen (fun W2 hW2 => ?_)
      have Z1 : B2 ≤ W.heap.size := Nat.le_trans HV.out.sz E1.size
      have V1 := HV.out.ext E1
      have hwp : wb ≠ pb := HT.out.ty.ne HV.out.part.ty (by decide)
      have V2 : WalkV B2 n wb gb mb lb pb (clS s o p) W2 := by
        have T5 : Blk W2 wb 154 (topV n gb mb lb pb (clS s o p) (some ⟨g, 0, none⟩) c) := by
          have := ((HT.out.ext E1).set 4 (.slice (some ⟨g, 0, none⟩) k c)).ext (ext_drew (Below.refl _ _))
          rw [← hW2] at this
          unfold topV
          rw [show (clS s o p).opn.length = k from HKL.out]
          exact this
        have hwm : wb ≠ mb := HT.out.ty.ne HV.out.met.ty (by decide)
        have hwl : wb ≠ lb := HT.out.ty.ne HV.out.low.ty (by decide)
        refine ⟨V1.hi, V1.ne, by rw [hW2]; simpa using Z1, ⟨_, c, T5, ?_⟩, ?_, ?_, ?_⟩
        · rw [show (clS s o p).opn.length = k from HKL.out, hW2]
          exact up_ext (own_set_other (up_ext HP.out E1) (.inr (fun e => by cases e; exact hgw rfl)) _) (ext_drew (Below.refl _ _))
        · rw [hW2]; exact (V1.met.other (p := ⟨wb, 4, none⟩) (Ne.symm hwm) _).ext (ext_drew (Below.refl _ _))
        · rw [hW2]; exact (V1.low.other (p := ⟨wb, 4, none⟩) (Ne.symm hwl) _).ext (ext_drew (Below.refl _ _))
        · rw [hW2]; exact (V1.part.other (p := ⟨wb, 4, none⟩) (Ne.symm hwp) _).ext (ext_drew (Below.refl _ _))
      have M2 : WMv B2 wb mb lb pb w W2 := by
        rw [hW2]
        exact ((HM.out.ext E1).set (HT.out.ext E1).ty (by decide) (.inr (.inl rfl)) _ _).ext (ext_drew (Below.refl _ _))
      clear hW2 V1 x4 f4
      obtain ⟨a5, c5, T5, R5⟩ := V2.top
      have y3 : W2.cell? ⟨wb, 3, none⟩ = some (.slice (some ⟨pb, 0, none⟩) n n) := T5.cell (i := 3) rfl
      have y6 : W2.cell? ⟨wb, 6, none⟩ = some (.int .i64 (s.all : Int)) := T5.cell (i := 6) rfl
      have yp : W2.drew.cell? ⟨pb, x, none⟩ = some (optV (p.getD x none)) := V2.part.cell (map_at optV (by rw [HPN.out]; exact hxn))
      have fp : W2.drew.frozen? ⟨pb, x, none⟩ = false := V2.part.free x
      have HV2 := Lib.hid V2
      have HM2 := Lib.hid M2
      have HT5 := Lib.hid T5
      have HR5 := Lib.hid R5
      clear V2 M2 T5 R5
      go_still_tail 9, (by kernel_rfl)
      change wpList _ _ _ _ _ W2.drew
      go_upto_region 3 with (fail)
      refine wp_gen (fun W3 hW3 => ?_)
      have V3 : WalkV B2 n wb gb mb lb pb (clS s o (p.set x (some s.all))) W3 ∧ WMv B2 wb mb lb pb w W3 := by
        have h6 := HV2.out.hi
        have hz := HV2.out.sz
        have ed : Ext W2 W2.drew := ext_drew (Below.refl _ _)
        refine ⟨⟨h6, HV2.out.ne, by rw [hW3]; simpa using hz, ⟨a5, c5, ?_, ?_⟩, ?_, ?_, ?_⟩, ?_⟩
        · rw [hW3]; exact (HT5.out.ext ed).other (p := ⟨pb, x, none⟩) hwp _
        · rw [hW3]
          refine own_set_other (up_ext HR5.out ed) (.inr (fun e => ?_)) _
          have := (HR5.out.lt pb e).1
          omega
        · rw [hW3]; exact (HV2.out.met.ext ed).other (p := ⟨pb, x, none⟩) HV2.out.ne.2.1 _
        · rw [hW3]; exact (HV2.out.low.ext ed).other (p := ⟨pb, x, none⟩) HV2.out.ne.2.2 _
        · rw [hW3]
          show Blk _ pb _ ((p.set x (some s.all)).map optV)
          rw [← map_set']
          exact (HV2.out.part.ext ed).set x _
        · rw [hW3]; exact (HM2.out.ext ed).set (HV2.out.part.ext ed).ty (by decide) (.inr (.inr (.inr (.inr rfl)))) _ _
      have HV3 := Lib.hid V3.1
      have HM3 := Lib.hid V3.2
      clear V3 hW3 y3 y6 yp fp
      obtain ⟨q, hq⟩ : ∃ q, decide (x = v) = q := ⟨_, rfl⟩
      have hqi : ((x : Int) == (v : Int)) = q := by
        rw [← hq, Bool.eq_iff_iff, beq_iff_eq, decide_eq_true_eq]
        omega
      have HQ := Lib.hid hq
      clear hq
      cases q with
      | true =>
        have hxv : x = v := of_decide_eq_true HQ.out
        have NX2 := NX.out
        rw [if_pos hxv] at NX2
        obtain ⟨a7, c7, T7, R7⟩ := HV3.out.top
        have y6 : W3.cell? ⟨wb, 6, none⟩ = some (.int .i64 (s.all : Int)) := T7.cell (i := 6) rfl
        have f6 := T7.free 6
        have rw1 : IntKind.i64.wrap ((s.all : Int) + 1) = (s.all : Int) + 1 := by have := HA.out; rw [IntKind.wrap_i64]; omega
        have FIN : Hid (WalkV B2 n wb gb mb lb pb { s with opn := (closeS s.opn v s.part s.all).1, part := (closeS s.opn v s.part s.all).2, all := s.all + 1 } (W3.setCell ⟨wb, 6, none⟩ (.int .i64 ((s.all : Int) + 1))) ∧ WMv B2 wb mb lb pb w (W3.setCell ⟨wb, 6, none⟩ (.int .i64 ((s.all : Int) + 1)))) := by
          have hwm : wb ≠ mb := T7.ty.ne HV3.out.met.ty (by decide)
          have hwl : wb ≠ lb := T7.ty.ne HV3.out.low.ty (by decide)
          rw [← HCL.out, NX2]
          refine ⟨⟨HV3.out.hi, HV3.out.ne, by simpa using HV3.out.sz, ⟨a7, c7, ?_, ?_⟩, HV3.out.met.other (p := ⟨wb, 6, none⟩) (Ne.symm hwm) _, HV3.out.low.other (p := ⟨wb, 6, none⟩) (Ne.symm hwl) _, HV3.out.part.other (p := ⟨wb, 6, none⟩) (Ne.symm hwp) _⟩, HM3.out.set T7.ty (by decide) (.inr (.inl rfl)) _ _⟩
          · have := T7.set 6 (.int .i64 ((s.all : Int) + 1))
            exact this
          · refine own_set_other R7 (.inr (fun e => ?_)) _
            have := (R7.lt wb e).1
            have := HV3.out.hi
            omega
        clear T7 R7 NX2 hxv
        go_wp2
        exact bodyPost_ret (results_none rfl _ _ _) rfl ⟨rfl, FIN.out⟩
      | false =>
        go_wp2
        go_roundg (gk - 1)
        case measure => have := HK.out; simp at this; omega
        case rel =>
          have NX2 := NX.out
          rw [if_neg (of_decide_eq_false HQ.out)] at NX2
          refine ⟨o, p.set x (some s.all), ?_, ?_, fun y hy => HON.out y (List.mem_cons_of_mem _ hy), by simp [HPN.out], by rw [← NX2]; exact HCL.out, HV3.out, HM3.out⟩
          · have := HK.out; simp at this; omega
          · rcases List.mem_cons.1 HVO.out with e | e
            · exact absurd e.symm (of_decide_eq_false HQ.out)
            · exact e
end Go.Proofs.YtlalgaioiapjmaaGreatDoor
namespace Go.Proofs.YtlalgaioiapjmaaGreatDoor
open Go.ChangeShapes Go.WideShapes Go.ChangeAt Go.RowKit
open K (WSt WInv mu stepW runW)
structure FrP (n : Nat) (g : Nat → List Nat) (start m0 : Nat) (R : WSt) (Cm f : Nat) (s : WSt) : Prop where
  inv : WInv n g start m0 s
  fu : mu g n s ≤ f
  run : runW g f s = R
  b1 : s.met0 + f ≤ Cm
  b2 : s.all + f ≤ Cm
theorem FrP.step {n : Nat} {g : Nat → List Nat} {start m0 : Nat} {R : WSt} {Cm f : Nat} {s s' : WSt} (h : FrP n g start m0 R Cm f s) (hg : ∀ v, v < n → ∀ t ∈ g v, t < n) (hw : s.way ≠ []) (hs : s' = stepW g s) : 0 < f ∧ FrP n g start m0 R Cm (f - 1) s' := by
  subst hs
  have h1 := K.step_mu h.inv hg hw
  have h2 := h.fu
  have h3 := K.step_counts g s
  have h4 := h.b1
  have h5 := h.b2
  obtain ⟨f, rfl⟩ : ∃ f', f = f' + 1 := ⟨f - 1, by omega⟩
  have h6 := h.run
  exact ⟨by omega, h.inv.step hg, by omega, h6, by omega, by omega⟩
theorem FrP.stop {n : Nat} {g : Nat → List Nat} {start m0 : Nat} {R : WSt} {Cm f : Nat} {s : WSt} (h : FrP n g start m0 R Cm f s) (hw : s.way = []) : s = R := by
  have h1 := h.run
  clear h
  rw [← h1]
  clear h1
  induction f with
  | zero => rfl
  | succ f ih =>
    show s = runW g f (stepW g s)
    have e : stepW g s = s := by unfold stepW; rw [hw]
    rw [e]
    exact ih
theorem nodup_lt : ∀ (n : Nat) (l : List Nat), l.Nodup → (∀ x ∈ l, x < n) → l.length ≤ n
  | 0, l, _, h => by
    cases l with
    | nil => simp
    | cons a l => exact absurd (h a (by simp)) (by omega)
  | n + 1, l, hn, h => by
    by_cases hm : n ∈ l
    · have h1 := nodup_lt n (l.erase n) (hn.erase n) (fun x hx => by
        have h2 := h x (List.mem_of_mem_erase hx)
        have h3 : x ≠ n := fun e => by subst e; exact (List.Nodup.not_mem_erase hn) hx
        omega)
      rw [List.length_erase_of_mem hm] at h1
      omega
    · have h1 := nodup_lt n l hn (fun x hx => by
        have h2 := h x hx
        have h3 : x ≠ n := fun e => hm (by rw [← e]; exact hx)
        omega)
      omega
theorem opn_few {n : Nat} {g : Nat → List Nat} {start m0 : Nat} {s : WSt} (h : WInv n g start m0 s) : s.opn.length ≤ n := by
  exact nodup_lt n _ h.nd h.olt
theorem way_few {n : Nat} {g : Nat → List Nat} {start m0 : Nat} {s : WSt} (h : WInv n g start m0 s) : s.way.length ≤ n := by
  have := h.sub.length_le
  have h2 := opn_few h
  simp at this
  omega
def wayC (l : List (Nat × Nat)) : List Value := l.reverse.flatMap fun p => [numV p.1, numV p.2]
theorem wayC_len (l : List (Nat × Nat)) : (wayC l).length = l.length * 2 := by
  unfold wayC
  induction l with
  | nil => rfl
  | cons a l ih => rw [List.reverse_cons, List.flatMap_append, List.length_append, ih]; simp; omega
theorem wayC_cons (p : Nat × Nat) (l : List (Nat × Nat)) : wayC (p :: l) = wayC l ++ [numV p.1, numV p.2] := by
  unfold wayC
  rw [List.reverse_cons, List.flatMap_append]
  simp
/-- The nodes under way. -/
def WayV (w : World) (B2 : Nat) (l : List (Nat × Nat)) (a : Option Addr) (c : Nat) : Prop := w.ownsRow B2 191 2 (.slice a l.length c) l.length (wayC l)
theorem WayV.top {w : World} {B2 c : Nat} {u k : Nat} {l : List (Nat × Nat)} {a : Option Addr} (h : WayV w B2 ((u, k) :: l) a c) : ∃ g, a = some ⟨g, 0, none⟩ ∧ B2 ≤ g ∧ w.cell? ⟨g, l.length * 2, none⟩ = some (numV u) ∧ w.cell? ⟨g, l.length * 2 + 1, none⟩ = some (numV k) ∧ (∀ o, w.frozen? ⟨g, o, none⟩ = false) ∧ l.length + 1 ≤ c ∧ c ≤ 9223372036854775807 ∧ Ty w g 191 := by
  have h' : w.ownsRow B2 191 2 (.slice a (l.length + 1) c) (l.length + 1) (wayC l ++ [numV u, numV k]) := by
    unfold WayV at h
    rw [wayC_cons] at h
    exact h
  obtain ⟨g, c', e, hc⟩ := own_formS h' (by omega)
  cases e
  have hl := wayC_len l
  have c0 := h'.cells (g := g) rfl (l.length * 2) (numV u) (by rw [List.getElem?_append_right (by omega), hl, Nat.sub_self]; rfl)
  have c1 := h'.cells (g := g) rfl (l.length * 2 + 1) (numV k) (by rw [List.getElem?_append_right (by omega), hl, show l.length * 2 + 1 - l.length * 2 = 1 by omega]; rfl)
  rw [Addr.add_lit, Nat.zero_add] at c0 c1
  rcases h'.2 with ⟨q, _⟩ | ⟨g', c', cur, q, hb, hh, _, q2, _⟩
  · cases q
  · cases q
    exact ⟨g, rfl, hb, c0, c1, fun o => by simp [World.frozen?, hh], hc, q2, ⟨_, _, hh⟩⟩
theorem WayV.ext {w w' : World} {B2 c : Nat} {l : List (Nat × Nat)} {a : Option Addr} (h : WayV w B2 l a c) (e : Ext w w') : WayV w' B2 l a c := up_ext h e
theorem WayV.pop {w : World} {B2 c : Nat} {p : Nat × Nat} {l : List (Nat × Nat)} {a : Option Addr} (h : WayV w B2 (p :: l) a c) : WayV w B2 l a c := by
  unfold WayV at h ⊢
  rw [wayC_cons] at h
  have q := own_pop (n := l.length) h
  rwa [List.take_append_of_le_length (by rw [wayC_len]; exact Nat.le_refl _), List.take_of_length_le (by rw [wayC_len]; exact Nat.le_refl _)] at q
/-- The next edge of the node on top. -/
theorem WayV.next {w : World} {B2 c u k g : Nat} {l : List (Nat × Nat)} (h : WayV w B2 ((u, k) :: l) (some ⟨g, 0, none⟩) c) (k' : Nat) : WayV (w.setCell ⟨g, l.length * 2 + 1, none⟩ (numV k')) B2 ((u, k') :: l) (some ⟨g, 0, none⟩) c := by
  unfold WayV at h ⊢
  obtain ⟨h1, h2⟩ := h
  refine ⟨by rw [wayC_len], ?_⟩
  rcases h2 with ⟨q, _⟩ | ⟨g', c', cur, q, hb, hh, hn, q2, q3, q4⟩
  · cases q
  · cases q
    have e : (w.setCell ⟨g, l.length * 2 + 1, none⟩ (numV k')).heap[g]? = some (.cells (cur.setIfInBounds (l.length * 2 + 1) (numV k')) 191 (0, 0)) := heap_setCell_same w g _ _ _ _ hh
    refine .inr ⟨g, c, _, rfl, hb, e, hn, q2, by simpa using q3, ?_⟩
    rw [wayC_cons] at q4 ⊢
    have q4 : cur.toList.take (((u, k') :: l).length * 2) = wayC l ++ [numV u, numV k] := q4
    rw [Array.toList_setIfInBounds, List.take_set, q4, List.set_append_right _ _ (by rw [wayC_len]; omega), wayC_len, show l.length * 2 + 1 - l.length * 2 = 1 by omega]
    rfl
/-- To which nodes each one's edges lead, in blocks that are not among S. -/
def NetAt (S : Nat → Prop) (gb n : Nat) (g : Nat → List Nat) (w : World) : Prop := ¬ S gb ∧ ∀ u, u < n → ∃ a c, w.cell? ⟨gb, u, none⟩ = some (.slice a (g u).length c) ∧ ∀ (k t : Nat), (g u)[k]? = some t → ∃ gu, a = some ⟨gu, 0, none⟩ ∧ ¬ S gu ∧ w.cell? ⟨gu, k, none⟩ = some (numV t)
theorem NetAt.keep {S : Nat → Prop} {gb n : Nat} {g : Nat → List Nat} {w w' : World} (h : NetAt S gb n g w) (e : ButS S w w') : NetAt S gb n g w' := by
  refine ⟨h.1, fun u hu => ?_⟩
  obtain ⟨a, c, h1, h2⟩ := h.2 u hu
  refine ⟨a, c, e.cell h.1 h1, fun k t ht => ?_⟩
  obtain ⟨gu, h3, h4, h5⟩ := h2 k t ht
  exact ⟨gu, h3, h4, e.cell h4 h5⟩
theorem NetV.netAt {B0 gb n : Nat} {S : Nat → Prop} {g : Nat → List Nat} {w : World} {C : Nat → Prop} (h : NetV w C B0 gb n g) (hC : ∀ b, C b → ¬ S b) : NetAt S gb n g w := by
  obtain ⟨fv, h1, _⟩ := h.each
  refine ⟨hC _ h.cga, fun u hu => ?_⟩
  obtain ⟨x1, x2, x3, x4⟩ := h1 u hu
  obtain ⟨a, c, hf, hc⟩ := own_form x3
  rw [hf] at x1 x3 x4
  refine ⟨a, c, x1, fun k t ht => ?_⟩
  have hk := (List.getElem?_eq_some_iff.1 ht).1
  obtain ⟨gu, c', e, _⟩ := own_formS x3 (by omega)
  cases e
  have := x3.cells (g := gu) rfl k (numV t) (by rw [List.getElem?_map, ht]; rfl)
  rw [Addr.add_lit, Nat.zero_add] at this
  exact ⟨gu, rfl, hC _ (x4 gu rfl), this⟩
theorem WalkV.way {B2 n wb gb mb lb pb : Nat} {s : WSt} {w : World} (h : WalkV B2 n wb gb mb lb pb s w) (l : List (Nat × Nat)) : WalkV B2 n wb gb mb lb pb { s with way := l } w := ⟨h.hi, h.ne, h.sz, h.top, h.met, h.low, h.part⟩
/-- What lies in memory while the search from one node is under way. -/
structure FrM (B2 n wb gb mb lb pb : Nat) (w0 : World) (s : WSt) (a : Option Addr) (c : Nat) (w : World) : Prop where
  val : WalkV B2 n wb gb mb lb pb s w
  row : WayV w B2 s.way a c
  low : ButS (WS B2 wb mb lb pb) w0 w
theorem FrM.ext {B2 n wb gb mb lb pb : Nat} {w0 : World} {s : WSt} {a : Option Addr} {c : Nat} {w w' : World} (h : FrM B2 n wb gb mb lb pb w0 s a c w) (e : Ext w w') : FrM B2 n wb gb mb lb pb w0 s a c w' :=
  ⟨h.val.ext e, h.row.ext e, h.low.ext e⟩
section
variable {B2 n wb gb mb lb pb : Nat} {w0 : World} {s : WSt} {a : Option Addr} {c : Nat} {w : World}
theorem WalkV.lowSet (h : WalkV B2 n wb gb mb lb pb s w) (u x : Nat) : WalkV B2 n wb gb mb lb pb { s with low := s.low.set u x } (w.setCell ⟨lb, u, none⟩ (numV x)) := by
  obtain ⟨a, c, T, R⟩ := h.top
  have hwl : wb ≠ lb := T.ty.ne h.low.ty (by decide)
  refine ⟨h.hi, h.ne, by simpa using h.sz, ⟨a, c, T.other (p := ⟨lb, u, none⟩) hwl _, ?_⟩, h.met.other (p := ⟨lb, u, none⟩) h.ne.1 _, ?_, h.part.other (p := ⟨lb, u, none⟩) (Ne.symm h.ne.2.2) _⟩
  · refine own_set_other R (.inr (fun e => ?_)) _
    have := (R.lt lb e).1
    have := h.hi
    omega
  · show Blk _ lb _ ((s.low.set u x).map numV)
    rw [← map_set']
    exact h.low.set u _
theorem FrM.low' (h : FrM B2 n wb gb mb lb pb w0 s a c w) (u x : Nat) : FrM B2 n wb gb mb lb pb w0 { s with low := s.low.set u x } a c (w.setCell ⟨lb, u, none⟩ (numV x)) := by
  refine ⟨h.val.lowSet u x, own_set_other h.row ?_ _, h.low.set (.inl (.inr (.inr (.inr (.inl rfl))))) _ _⟩
  cases hx : Value.ownBlock (.slice a s.way.length c) with
  | none => exact .inl rfl
  | some b => exact .inr fun e => (own_ty h.row hx).ne h.val.low.ty (by decide) (Option.some.inj e)
theorem FrM.pop (h : FrM B2 n wb gb mb lb pb w0 s a c w) {p : Nat × Nat} {rest : List (Nat × Nat)} (hw : s.way = p :: rest) : FrM B2 n wb gb mb lb pb w0 { s with way := rest } a c w := by
  have h1 := h.row
  rw [hw] at h1
  exact ⟨h.val.way _, h1.pop, h.low⟩
theorem FrM.next {g : Nat} (h : FrM B2 n wb gb mb lb pb w0 s (some ⟨g, 0, none⟩) c w) {u k : Nat} {rest : List (Nat × Nat)} (hw : s.way = (u, k) :: rest) (k' : Nat) : FrM B2 n wb gb mb lb pb w0 { s with way := (u, k') :: rest } (some ⟨g, 0, none⟩) c (w.setCell ⟨g, rest.length * 2 + 1, none⟩ (numV k')) := by
  have h1 := h.row
  rw [hw] at h1
  obtain ⟨_, e, hgB, _, _, _, _, _, hty⟩ := h1.top
  cases e
  have hv := h.val
  obtain ⟨a, c, T, R⟩ := hv.top
  have nw : wb ≠ g := T.ty.ne hty (by decide)
  have nm : mb ≠ g := hv.met.ty.ne hty (by decide)
  have nl : lb ≠ g := hv.low.ty.ne hty (by decide)
  have np : pb ≠ g := hv.part.ty.ne hty (by decide)
  have hhi := hv.hi
  refine ⟨⟨hhi, hv.ne, by simpa using hv.sz, ⟨a, c, T.other (p := ⟨g, rest.length * 2 + 1, none⟩) nw _, own_set_other R ?_ _⟩, hv.met.other (p := ⟨g, rest.length * 2 + 1, none⟩) nm _, hv.low.other (p := ⟨g, rest.length * 2 + 1, none⟩) nl _, hv.part.other (p := ⟨g, rest.length * 2 + 1, none⟩) np _⟩, h1.next k', h.low.set (.inl (.inl hgB)) _ _⟩
  cases hx : Value.ownBlock (.slice a s.opn.length c) with
  | none => exact .inl rfl
  | some b => exact .inr fun e => (own_ty R hx).ne hty (by decide) (Option.some.inj e)
theorem WalkV.grownF (h : WalkV B2 n wb gb mb lb pb s w) {v : Value} {m : Nat} {xs : List Value} (ho : w.ownsRow B2 191 2 v m xs) {w' : World} (g : w.grownBy w' v.ownBlock) : WalkV B2 n wb gb mb lb pb s w' := by
  obtain ⟨a, c, T, R⟩ := h.top
  have ne : ∀ b, Ty w b 154 ∨ Ty w b 3 → v.ownBlock ≠ some b := fun b hb e => by
    rcases hb with hb | hb
    · exact (own_ty ho e).ne hb (by decide) rfl
    · exact (own_ty ho e).ne hb (by decide) rfl
  exact ⟨h.hi, h.ne, Nat.le_trans h.sz g.size, ⟨a, c, T.grown g (ne _ (.inl T.ty)), R.kept g (own_apart R ho (by decide))⟩, h.met.grown g (ne _ (.inr h.met.ty)), h.low.grown g (ne _ (.inr h.low.ty)), h.part.grown g (ne _ (.inr h.part.ty))⟩
theorem FrM.push (h : FrM B2 n wb gb mb lb pb w0 s a c w) {l : List (Nat × Nat)} (hw : s.way = l) (p : Nat × Nat) {g6 c6 : Nat} {w6 : World} {o : Obj} (p1 : w6.ownsRow B2 191 2 (.slice (some ⟨g6, 0, none⟩) (l.length + 1) c6) (l.length + 1) (wayC l ++ [numV p.1, numV p.2])) (p2 : (w.alloc o).grownBy w6 (Value.slice a l.length c).ownBlock) : FrM B2 n wb gb mb lb pb w0 { s with way := p :: l } (some ⟨g6, 0, none⟩) c6 w6 := by
  subst hw
  have hx := h.ext (ext_alloc (Below.refl _ w) o)
  exact ⟨(hx.val.grownF hx.row p2).way _, by unfold WayV; rw [wayC_cons]; exact p1, hx.low.grown p2 (fun b e => .inl (.inl (hx.row.lt b e).1))⟩
theorem info_frame : (Tryz.prog.info? 191).map (fun i => (i.zero, i.size, i.bytes)) = some (some (.agg #[.int .i64 0, .int .i64 0]), 2, 16) := by kernel_rfl
theorem cells2_new (w : World) (u0 u1 : Value) (t : TypeId) : ∀ j x, [u0, u1][j]? = some x → (w.alloc (.cells #[u0, u1] t)).cell? ((⟨w.heap.size, 0, none⟩ : Addr).add j) = some x := fun j x hj => by
  have hB := Blk.new w [u0, u1] t
  rw [Addr.add_lit, Nat.zero_add]
  exact hB.cell hj
theorem wpList_push_frame {ops : Array Oper} {rest : List Oper} {o : Oper} {a : Act} {Q : Exit → Act → World → Prop} (W0 : World) (x y : Int) (base : Nat) (fa : Option Addr) (n fc : Nat) (l : List Value) (hown : W0.ownsRow base 191 2 (.slice fa n fc) n l) (hn : n ≤ 2000000) (hbase : base ≤ W0.heap.size) (hgd : o.guard = none) (so xo : Operand)
    (ho : o.op = .call { callee := .builtin .append, args := #[so, xo], argTypes := #[192, 192] }) (hs : a.eval so = .slice fa n fc) (hx : a.eval xo = .slice (some ⟨W0.heap.size, 0, none⟩) 1 1)
    (h : ∀ g cap w', w'.ownsRow base 191 2 (.slice (some ⟨g, 0, none⟩) (n + 1) cap) (n + 1) (l ++ [intV x, intV y]) → (W0.alloc (.cells #[.int .i64 x, .int .i64 y] 191)).grownBy w' (Value.slice fa n fc).ownBlock → wpList Tryz.prog ops Q rest (a.put o.dst (.slice (some ⟨g, 0, none⟩) (n + 1) cap)) w') :
    wpList Tryz.prog ops Q (o :: rest) a (W0.alloc (.cells #[.int .i64 x, .int .i64 y] 191)) := by
  obtain ⟨n0, hn0, nz0, nz1, nz2⟩ := info_parts info_frame
  exact wpList_append_one _ hgd so xo 192 ho base 191 n0 (.agg #[.int .i64 0, .int .i64 0]) 2 16 Tryz.underlying192 hn0 nz0 nz1 nz2 rfl (by decide) _ n _ l hs (hown.alloc _) ⟨W0.heap.size, 0, none⟩ 1 [.int .i64 x, .int .i64 y] hx rfl (cells2_new W0 _ _ _) (by intro u hu; simp at hu; rcases hu with rfl | rfl <;> rfl) (by unfold maxLen; omega) (by omega) (by simp; omega) fun g cap w1 hown1 hgrow hat _ => h g cap w1 hown1 hgrow
end
end Go.Proofs.YtlalgaioiapjmaaGreatDoor
