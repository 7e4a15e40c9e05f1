/- The calls of tuple.Base: NewBase, of, Len, Declare, Add. The walk of the law's few, with its exact answer; Base.Len likewise. -/
import Derived.Test.YtpgbenijjodoeaaGreatG4
namespace Go.Proofs.YtpgbenijjodoeaaGreat
open Go.ChangeShapes Go.WideShapes Go.ChangeAt Go.RowKit
theorem zero_rows (w : World) : (zeroValue 40).run Tryz.prog w = .ok (.pointer none) w := by kernel_rfl
theorem c_newBase (w : World) :
    Calls Tryz.prog 21 #[] w fun e w' => e = .returned (.pointer (some ⟨w.heap.size + 1, 0, none⟩)) ∧ BaseV w' w.heap.size (w.heap.size + 1) (fun _ => none) ∧ Ext w w' := by
  have hmm := @run_makeMap Tryz.prog
  go_enter Tryz.func21, Tryz.ntmps21
  go_wp2
  go_returns
  have hh : ((w.alloc (.map #[] 0)).alloc (.cells #[.map (some w.heap.size), .int .i64 0] 71)).heap[w.heap.size + 1]? = some (.cells #[.map (some w.heap.size), .int .i64 0] 71 (0, 0)) := by
    have := heap_alloc_new (w.alloc (.map #[] 0)) (.cells #[.map (some w.heap.size), .int .i64 0] 71)
    simpa using this
  have e1 : Ext w ((w.alloc (.map #[] 0)).alloc (.cells #[.map (some w.heap.size), .int .i64 0] 71)) := ext_alloc (ext_alloc (Below.refl _ _) _) _
  have e2 : K.SMap ((w.alloc (.map #[] 0)).alloc (.cells #[.map (some w.heap.size), .int .i64 0] 71)) w.heap.size (fun _ => none) := (K.SMap.made w).ext (ext_alloc (Below.refl _ _) _)
  generalize (w.alloc (.map #[] 0)).alloc (.cells #[.map (some w.heap.size), .int .i64 0] 71) = W at hh e1 e2 ⊢
  exact ⟨by simp, ⟨⟨by omega, ⟨_, _, hh⟩, ⟨0, by simp [World.cell?, hh]⟩, by simp [World.frozen?, hh], fun k x h => by simp at h, fun k k' x x' h => by simp at h⟩, w.heap.size, Nat.le_refl _, by simp [World.cell?, hh], e2⟩, e1⟩
def namedB (k : ByteArray) : Bool := decide (1 ≤ k.size) && decide (k.size ≤ 4096)
theorem c_named (k : ByteArray) (w : World) : Calls Tryz.prog 42 #[.string k] w fun e w' => e = .returned (.bool (namedB k)) ∧ w' = w := by
  obtain ⟨b, hb⟩ : ∃ b, decide ((1 : Int) ≤ (k.size : Int)) = b := ⟨_, rfl⟩
  obtain ⟨c, hc⟩ : ∃ c, decide ((k.size : Int) ≤ (4096 : Int)) = c := ⟨_, rfl⟩
  have HQ : Hid (namedB k = (b && c)) := by
    show _ = _
    unfold namedB
    rw [← hb, ← hc]
    congr 1 <;> simp only [decide_eq_decide] <;> omega
  cases b <;> cases c
  all_goals
    go_enter Tryz.func42, Tryz.ntmps42
    go_wp2
    go_returns
    exact ⟨by rw [HQ.out]; rfl, rfl⟩
abbrev relP (x : Option (Nat × Nat × List (List ByteArray))) : Value := .pointer (x.map fun x => ⟨x.1, 0, none⟩)
theorem BaseV.look {w : World} {lo bb : Nat} {f : RelM} (h : BaseV w lo bb f) (k : ByteArray) : ∃ mb, w.cell? ⟨bb, 0, none⟩ = some (.map (some mb)) ∧ (Instr.lookup 69 (.map (some mb)) (.string k) false).run Tryz.prog w = .ok (relP (f k)) w := by
  obtain ⟨mb, _, h2, h3⟩ := h.m
  refine ⟨mb, h2, ?_⟩
  have hl := K.run_look (P := Tryz.prog) (t := 69) h3 Tryz.underlying69 Tryz.underlying9 (zero_rows _) k false
  rw [hl]
  simp only [Bool.false_eq_true, if_false]
  cases f k <;> rfl
theorem c_of (lo bb : Nat) (f : RelM) (k : ByteArray) (w : World) (h : BaseV w lo bb f) : Calls Tryz.prog 112 #[.pointer (some ⟨bb, 0, none⟩), .string k] w fun e w' => e = .returned (relP (f k)) ∧ w' = w := by
  obtain ⟨mb, h1, hl⟩ := h.look k
  clear h
  go_enter Tryz.func112, Tryz.ntmps112
  go_wp2
  go_returns
  exact ⟨rfl, rfl⟩
theorem ne_map (mb : Nat) (w : World) : (binOp .eql 69 (.map (some mb)) (.map none)).run Tryz.prog w = .ok (.bool false) w := by kernel_rfl
/-- A pointer laid under a name. -/
theorem c_putB (lo bb pb : Nat) (f : RelM) (m : ByteArray → Option Nat) (k : ByteArray) (w : World) (h : BaseR w lo bb f) (hm : BaseMp w lo bb m) : Calls Tryz.prog 43 #[.pointer (some ⟨bb, 0, none⟩), .string k, .pointer (some ⟨pb, 0, none⟩)] w fun e w' => (∃ v, e = .returned v) ∧ BaseR w' lo bb f ∧ BaseMp w' lo bb (updF m k pb) ∧ ButS (fun b => lo ≤ b) w w' ∧ BMove bb f f w w' := by
  obtain ⟨mb, h1, h2, h3⟩ := hm
  have H := Lib.hid h
  have nm := ne_map mb w
  obtain ⟨o, hrun, hsm⟩ := K.run_upd (P := Tryz.prog) (t := 69) h3 Tryz.underlying69 Tryz.underlying9 k (.pointer (some ⟨pb, 0, none⟩))
  have HB : Hid (ButS (fun b => b = mb) w (K.setMap w mb o)) := (ButS.refl _ w).grown (K.setMap_grown w mb o) (fun b e => .inl (by cases e; rfl))
  have H3 := Lib.hid h3
  have HS := Lib.hid hsm
  have H1 := Lib.hid h1
  have H2 := Lib.hid h2
  clear h h3 hsm
  go_enter Tryz.func43, Tryz.ntmps43
  go_wp2
  go_end0
  have ty : ∀ {t b}, Ty w b t → ¬ b = mb := fun ht e => by
    subst e
    exact smap_ty H3.out ht
  have hh := H.out
  obtain ⟨n, hn⟩ := hh.n
  have ro : ∀ k x, f k = some x → RowsV (K.setMap w mb o) (x.1 + 1) x.1 x.2.1 x.2.2 ∧ itemB (K.setMap w mb o) x.1 = itemB w x.1 := fun k x hx => by
    obtain ⟨_, o2, o3, _⟩ := hh.rel k x hx
    exact o2.but HB.out (ty o3) (fun g hg => ty (o2.item_ty hg).1) (fun b hb ht => ty ht hb)
  refine ⟨⟨_, rfl⟩, ⟨hh.low, hh.ty.but HB.out (ty hh.ty), ⟨n, HB.out.cell (ty hh.ty) hn⟩, frozen_but HB.out (ty hh.ty) hh.ty.lt hh.free, fun k x hx => ?_, fun k k' x x' hx hx' hne => ?_⟩, ⟨mb, H1.out, HB.out.cell (ty hh.ty) H2.out, ?_⟩, HB.out.mono (fun b _ hb => by subst hb; exact H1.out), HB.out.mono (fun b _ hb => by subst hb; exact .inr (.inl H2.out)), fun b hb => ?_⟩
  · obtain ⟨o1, o2, o3, o4⟩ := hh.rel k x hx
    exact ⟨o1, (ro k x hx).1, o3.but HB.out (ty o3), o4⟩
  · rw [(ro k x hx).2, (ro k' x' hx').2]
    exact hh.apart k k' x x' hx hx' hne
  · have : (fun x => (updF m k pb x).map fun pb => Value.pointer (some ⟨pb, 0, none⟩)) = K.upd (fun x => (m x).map fun pb => Value.pointer (some ⟨pb, 0, none⟩)) k (some (.pointer (some ⟨pb, 0, none⟩))) := by
      funext x
      unfold updF K.upd
      split <;> rfl
    rw [this]
    exact HS.out
  · rcases hb with hb | hb | ⟨k', x', hx', hb⟩
    · exact .inl (.inl hb)
    · refine .inl (.inr (.inl ?_))
      rw [← hb]
      exact (World.cell?_of_block (HB.out.block bb hh.ty.lt (ty hh.ty))).symm
    · rw [(ro k' x' hx').2] at hb
      exact .inl (.inr (.inr ⟨k', x', hx', hb⟩))
/-- The number of facts is written. -/
theorem BaseR.count {w : World} {lo bb : Nat} {f : RelM} (h : BaseR w lo bb f) (n : Int) : BaseR (w.setCell ⟨bb, 1, none⟩ (.int .i64 n)) lo bb f ∧ (∀ m, BaseMp w lo bb m → BaseMp (w.setCell ⟨bb, 1, none⟩ (.int .i64 n)) lo bb m) ∧ ButS (fun b => lo ≤ b) w (w.setCell ⟨bb, 1, none⟩ (.int .i64 n)) ∧ BMove bb f f w (w.setCell ⟨bb, 1, none⟩ (.int .i64 n)) := by
  have HB : ButS (fun b => b = bb) w (w.setCell ⟨bb, 1, none⟩ (.int .i64 n)) := (ButS.refl (fun b => b = bb) w).set (.inl rfl) _ _
  obtain ⟨k, hk⟩ := h.n
  have ty : ∀ {t b}, Ty w b t → t ≠ 71 → ¬ b = bb := fun ht hne e => by
    subst e
    exact ht.ne h.ty hne rfl
  have ro : ∀ k x, f k = some x → RowsV (w.setCell ⟨bb, 1, none⟩ (.int .i64 n)) (x.1 + 1) x.1 x.2.1 x.2.2 ∧ itemB (w.setCell ⟨bb, 1, none⟩ (.int .i64 n)) x.1 = itemB w x.1 := fun k x hx => by
    obtain ⟨_, o2, o3, _⟩ := h.rel k x hx
    exact o2.but HB (ty o3 (by decide)) (fun g hg => ty (o2.item_ty hg).1 (by decide)) (fun b hb ht => ty ht (by decide) hb)
  refine ⟨⟨h.low, ?_, ⟨n, World.cell?_setCell_same _ _ _ hk⟩, by rw [World.frozen?_setCell]; exact h.free, fun k x hx => ?_, fun k k' x x' hx hx' hne => ?_⟩, fun m hm => ?_, HB.mono (fun b _ hb => by subst hb; exact h.low), HB.mono (fun b _ hb => .inl hb), fun b hb => ?_⟩
  · obtain ⟨cs, x, q⟩ := h.ty
    obtain ⟨cs', q'⟩ := typ_setCell q 1 (.int .i64 n)
    exact ⟨cs', x, q'⟩
  · obtain ⟨o1, o2, o3, o4⟩ := h.rel k x hx
    exact ⟨o1, (ro k x hx).1, o3.but HB (ty o3 (by decide)), o4⟩
  · rw [(ro k x hx).2, (ro k' x' hx').2]
    exact h.apart k k' x x' hx hx' hne
  · obtain ⟨mb, q1, q2, q3⟩ := hm
    refine ⟨mb, q1, ?_, smap_but q3 HB (fun e => by subst e; exact smap_ty q3 h.ty)⟩
    rw [World.cell?_setCell_other _ _ _ _ (by simp)]
    exact q2
  · rcases hb with hb | hb | ⟨k', x', hx', hb⟩
    · exact .inl (.inl hb)
    · rw [World.cell?_setCell_other _ _ _ _ (by simp)] at hb
      exact .inl (.inr (.inl hb))
    · rw [(ro k' x' hx').2] at hb
      exact .inl (.inr (.inr ⟨k', x', hx', hb⟩))
/-- NewRows, with all that a base asks of it. -/
theorem c_newRows2 (ar : Nat) (har : ar ≤ 64) (w : World) :
    Calls Tryz.prog 27 #[.int .i64 (ar : Int)] w fun e w' => e = .returned (.tuple #[.pointer (some ⟨w.heap.size, 0, none⟩), .int .i64 0]) ∧ RowsV w' (w.heap.size + 1) w.heap.size ar [] ∧ Ty w' w.heap.size 99 ∧ itemB w' w.heap.size = none ∧ Ext w w' ∧ w'.heap.size = w.heap.size + 1 := by
  have h1 : ¬ ((ar : Int) < 0) := by omega
  have h2 : ¬ ((64 : Int) < (ar : Int)) := by omega
  go_enter Tryz.func27, Tryz.ntmps27
  go_wp2
  go_ret2
  refine ⟨rfl, ⟨by simp, by go_simp, by go_simp, by go_simp, none, 0, [], by go_simp, World.ownsRow_nil _ _ _ _, fun i r v h => by simp at h⟩, ⟨_, _, heap_alloc_new _ _⟩, ?_, ext_alloc (Below.refl _ _) _, by simp⟩
  unfold itemB
  go_simp
end Go.Proofs.YtpgbenijjodoeaaGreat
namespace Go.Proofs.YtpgbenijjodoeaaGreat
open Go.ChangeShapes Go.WideShapes Go.ChangeAt Go.RowKit
def fewGo (n : Int) : Nat → Int → Bool
  | 0, s => decide (s ≤ 200000)
  | k + 1, s => if decide (s ≤ 200000) = true then fewGo n k (wrap64 (s * max n 1)) else false
def fewB (n : Int) (k : Nat) : Bool := fewGo n k 1
set_option maxRecDepth 100000 in
theorem c_fewE (n : Int) (k : Nat) (hk : k ≤ 1000000) (w : World) : Calls Tryz.prog 9 #[.int .i64 n, .int .i64 (k : Int)] w fun e w' => e = .returned (.bool (fewB n k)) ∧ w' = w := by
  go_enter Tryz.func9, Tryz.ntmps9
  go_wp2
  go_loopw [5, 6] (fun u v wj => ∃ (s : Int) (i : Nat), i ≤ k ∧ u = .int .i64 s ∧ v = .int .i64 i ∧ wj = w ∧ fewB n k = fewGo n (k - i) s) (fun _ v _ => k - (intOf v).toNat)
  case atStart => exact ⟨1, 0, Nat.zero_le _, rfl, rfl, rfl, rfl⟩
  case round =>
    obtain ⟨s, i, hi, rfl, rfl, hwj, hq⟩ := hrel
    subst hwj
    have HQ := Lib.hid hq
    clear hq
    by_cases hlt : i < k
    · have hki : (i : Int) < (k : Int) := by omega
      have e : k - i = (k - (i + 1)) + 1 := by omega
      have HE : Hid (fewGo n (k - i) s = if decide (s ≤ 200000) = true then fewGo n (k - (i + 1)) (wrap64 (s * max n 1)) else false) := by show _ = _; rw [e]; rfl
      clear e
      obtain ⟨b, hb⟩ : ∃ b, decide (s ≤ 200000) = b := ⟨_, rfl⟩
      have HB : Hid (decide (s ≤ 200000) = b) := hb
      cases b with
      | false =>
        go_wp2
        go_returns
        refine ⟨ret_bool ?_, rfl⟩
        rw [HQ.out, HE.out, HB.out]
        rfl
      | true =>
        go_wp2
        go_roundw
        case rel => exact ⟨_, i + 1, by omega, rfl, by simp, trivial, by rw [HQ.out, HE.out, HB.out]; rfl⟩
        case measure => simp [intOf]; omega
    · obtain rfl : i = k := by omega
      have hge : ¬ (i : Int) < (i : Int) := by omega
      go_wp2
      go_returns
      refine ⟨ret_bool ?_, rfl⟩
      rw [HQ.out, Nat.sub_self]
      rfl
theorem c_lenE (bb : Nat) (n : Int) (w : World) (h : w.cell? ⟨bb, 1, none⟩ = some (.int .i64 n)) : Calls Tryz.prog 10 #[.pointer (some ⟨bb, 0, none⟩)] w fun e w' => e = .returned (.int .i64 n) ∧ w' = w := by
  have he : ∀ w, (binOp .eql 35 (.pointer (some ⟨bb, 0, none⟩)) (.pointer none)).run Tryz.prog w = .ok (.bool false) w := fun w => by kernel_rfl
  go_enter Tryz.func10, Tryz.ntmps10
  go_wp2
  go_returns
  exact ⟨rfl, rfl⟩
end Go.Proofs.YtpgbenijjodoeaaGreat
