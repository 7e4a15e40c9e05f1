/- The walk of the matcher's put: a positive atom's trie. -/
import Derived.Test.YtpgbenijjodoeaaGreatG20
import Derived.Test.YtpgbenijjodoeaaGreatG37
namespace Go.Proofs.YtpgbenijjodoeaaGreat
open Go.ChangeShapes Go.WideShapes Go.ChangeAt Go.RowKit
/-- What lies in the blocks from s to e stands whatever becomes of others. -/
def Stat (w : World) (s e : Nat) (P : World → Prop) : Prop := ∀ w2, ButS (fun b => b < s ∨ e ≤ b) w w2 → P w2
theorem Stat.move {w w' : World} {s e : Nat} {P : World → Prop} (h : Stat w s e P) {T : Nat → Prop} (b : ButS T w w') (hT : ∀ b, T b → b < s ∨ e ≤ b) : Stat w' s e P := fun w2 h2 => h w2 ((b.mono fun b _ q => hT b q).trans h2)
def atN (at_ : Nat → List Nat) (vs : List Nat) (nt : Nat) : Nat → List Nat := fun v => if v ∈ vs then at_ v ++ [nt] else at_ v
theorem atN_snoc {at_ : Nat → List Nat} {vs : List Nat} {nt v : Nat} (h : v ∉ vs) : updA (atN at_ vs nt) v (atN at_ vs nt v ++ [nt]) = atN at_ (vs ++ [v]) nt := by
  funext u
  unfold updA atN
  by_cases hu : u = v
  · subst hu
    rw [if_pos rfl, if_neg h, if_pos (by simp)]
  · rw [if_neg hu]
    by_cases h2 : u ∈ vs
    · rw [if_pos h2, if_pos (by simp [h2])]
    · rw [if_neg h2, if_neg (by simp [h2, hu])]
def upto (m : Nat) : List Int := (List.range m).map fun (i : Nat) => (i : Int)
/-- Lists stand when blocks of others are written. -/
theorem ListsAt.far {w w' : World} {S C : Nat → Prop} {B0 ga n : Nat} {et rt : TypeId} {size : Nat} {ls : Nat → List Value} {ns : Nat → Nat} (h : ListsAt w C B0 ga n et rt size ls ns) (e : ButS S w w') (hs : ∀ b, C b → ¬ S b) : ListsAt w' C B0 ga n et rt size ls ns := by
  obtain ⟨fv, h1, h2⟩ := h.each
  have hga := hs ga h.cga
  exact ⟨h.cga, h.ty.but e hga, fv, fun v hv => ⟨e.cell hga (h1 v hv).1, frozen_but e hga (World.block_lt_of_cell? w ⟨ga, v, none⟩ (h1 v hv).1) (h1 v hv).2.1, e.own (h1 v hv).2.2.1 (fun b hb => hs b ((h1 v hv).2.2.2 b hb)), (h1 v hv).2.2.2⟩, h2⟩
theorem MatB.far {w w' : World} {S C : Nat → Prop} {B0 pm : Nat} {an : Option Addr} {n cn : Nat} {at_ : Nat → List Nat} {pts : List Nat} {tl : Nat → List (Int × Value)} (h : MatB w C B0 pm an n cn at_ pts tl) (e : ButS S w w') (hs : ∀ b, C b → ¬ S b) : MatB w' C B0 pm an n cn at_ pts tl := by
  obtain ⟨v, t1, t2, t3, t4⟩ := h.tries
  obtain ⟨ga, ca, a1, a2⟩ := h.at_
  obtain ⟨gt, ct, b1, b2⟩ := h.tests
  have hp := hs pm h.cpm
  exact ⟨fun b hb => ⟨(h.low b hb).1, Nat.lt_of_lt_of_le (h.low b hb).2 e.size⟩, h.cpm, h.ty.but e hp, e.cell hp h.c0, ⟨v, e.cell hp t1, frozen_but e hp h.ty.lt t2, e.own t3 (fun b hb => hs b (t4 b hb)), t4⟩, ⟨ga, ca, e.cell hp a1, a2.far e hs⟩, gt, ct, e.cell hp b1, b2.far e hs⟩
theorem RowsV.but2 {w w' : World} {lo pb ar : Nat} {rs : List (List ByteArray)} {S : Nat → Prop} (h : RowsV w lo pb ar rs) (e : ButS S w w') (h1 : ¬ S pb) (h2 : ∀ g, itemB w pb = some g → ¬ S g) (h3 : ∀ b, S b → b < lo ∨ ¬ Ty w b 9) : RowsV w' lo pb ar rs := by
  obtain ⟨a, c, vs, r1, r2, r3⟩ := h.row
  have ib := item_own r1
  refine ⟨h.lt, e.cell h1 h.c0, e.cell h1 h.c2, frozen_but e h1 (World.block_lt_of_cell? w ⟨pb, 1, none⟩ r1) h.free, a, c, vs, e.cell h1 r1, e.own r2 (fun b hb => h2 b (ib.trans hb)), fun i r v hr hv => e.own (r3 i r v hr hv) (fun b hb hS => ?_)⟩
  rcases h3 b hS with q | q
  · have := ((r3 i r v hr hv).lt b hb).1
    omega
  · exact q (own_ty (r3 i r v hr hv) hb)
theorem upto_ok (m : Nat) : orderOk m (upto m) := by
  intro i c hc
  unfold upto at hc ⊢
  rw [List.getElem?_map] at hc
  obtain ⟨j, hj, rfl⟩ := Option.map_eq_some_iff.1 hc
  have hj2 := (List.getElem?_eq_some_iff.1 hj)
  obtain ⟨hi, e⟩ := hj2
  rw [List.getElem_range] at e
  subst e
  rw [List.length_range] at hi
  refine ⟨by omega, by omega, ?_⟩
  rw [← List.map_take, List.take_range]
  intro h
  obtain ⟨x, hx, e⟩ := List.mem_map.1 h
  have := List.mem_range.1 hx
  omega
theorem upto_proj {m : Nat} {r : List ByteArray} (h : r.length = m) : projM (upto m) r = r := by
  subst h
  unfold projM upto
  rw [List.map_map]
  apply List.ext_getElem
  · simp
  · intro i h1 h2
    simp [List.getElem?_eq_getElem h2]
theorem info_tr : (Tryz.prog.info? 151).map (fun i => (i.zero, i.size, i.bytes)) = some (some (.pointer none), 1, 8) := by kernel_rfl
/-- What put answers for a table with variables. -/
def PutPost (C : Nat → Prop) (B0 pm : Nat) (an : Option Addr) (n cn : Nat) (at_ : Nat → List Nat) (pts : List Nat) (tl : Nat → List (Int × Value)) (vars : List Nat) (rs : List (List ByteArray)) (w : World) (e : Ending) (w' : World) : Prop := (∃ v, e = .returned v) ∧ ∃ C' pt ways s d, MatB w' C' B0 pm an n cn (atN at_ vars pts.length) (pts ++ [pt]) tl ∧ MatMv C C' w w' ∧ Ways vars.length ways ∧ (∀ x, x ∈ ways ↔ x ∈ rs) ∧ ways.length ≤ rs.length ∧ w.heap.size ≤ s ∧ Stat w' s d (fun W => TrieV W pt vars.length ways) ∧ (∀ b, C' b → b < s ∨ d ≤ b) ∧ d ≤ w'.heap.size
set_option maxRecDepth 100000 in
set_option maxHeartbeats 4000000 in
theorem c_put0 (C : Nat → Prop) (B0 pm : Nat) (an : Option Addr) (n cn : Nat) (at_ : Nat → List Nat) (pts : List Nat) (tl : Nat → List (Int × Value)) (av : Option Addr) (cv pr : Nat) (w : World) (_ : MatB w C B0 pm an n cn at_ pts tl) :
    Calls Tryz.prog 84 #[.pointer (some ⟨pm, 0, none⟩), .agg #[.slice av 0 cv, .pointer (some ⟨pr, 0, none⟩)]] w fun e w' => (∃ v, e = .returned v) ∧ Ext w w' := by
  go_enter Tryz.func84, Tryz.ntmps84
  go_wp2
  exact bodyPost_ret (results_none rfl _ _ _) rfl ⟨⟨_, rfl⟩, ext_alloc (Below.refl _ _) _⟩
set_option maxRecDepth 100000 in
set_option maxHeartbeats 4000000 in
theorem c_put (C : Nat → Prop) (B0 pm : Nat) (an : Option Addr) (n cn : Nat) (at_ : Nat → List Nat) (pts : List Nat) (tl : Nat → List (Int × Value)) (vars : List Nat) (rs : List (List ByteArray)) (av : Option Addr) (m cv pr s : Nat) (w : World) (h : MatB w C B0 pm an n cn at_ pts tl) (hv : w.ownsRow s 3 1 (.slice av m cv) m (vars.map numV)) (hm : 0 < m) (hm64 : m ≤ 64) (hup : vars.Pairwise (· < ·)) (hlt : ∀ v ∈ vars, v < n) (hr : RowsV w (pr + 1) pr m rs) (hok : RelOk m rs) (hC : ∀ b, C b → b < s) (hpt : pts.length ≤ 1000000) (hat : ∀ v, (at_ v).length ≤ 1000000) (hsz : s ≤ pr) (hB : B0 ≤ s) :
    Calls Tryz.prog 84 #[.pointer (some ⟨pm, 0, none⟩), .agg #[.slice av m cv, .pointer (some ⟨pr, 0, none⟩)]] w (PutPost C B0 pm an n cn at_ pts tl vars rs w) := by
  obtain ⟨j0, hj, yz0, yz1, yz2⟩ := info_parts info_int
  obtain ⟨i0, hi, hz0, hz1, hz2⟩ := info_parts info_tr
  have H := Lib.hid h
  have HVV := Lib.hid hv
  have HUP := Lib.hid hup
  have HLT := Lib.hid hlt
  have HR := Lib.hid hr
  have HOK := Lib.hid hok
  have HC := Lib.hid hC
  have HAT := Lib.hid hat
  have HVL : Hid (vars.length = m) := by show _ = _; have := hv.1; simpa using this
  have hprl : pr < w.heap.size := by
    obtain ⟨_, _, _, q, _⟩ := hr.row
    exact World.block_lt_of_cell? w ⟨pr, 1, none⟩ q
  clear h hv hup hlt hr hok hC hat
  obtain ⟨w1, hw1⟩ : ∃ w1, w1 = w.alloc (.cells #[.slice av m cv, .pointer (some ⟨pr, 0, none⟩)] 139) := ⟨_, rfl⟩
  have E1 : Hid (Ext w w1) := by show Ext _ _; rw [hw1]; exact ext_alloc (Below.refl _ _) _
  have S1 : Hid (w1.heap.size = w.heap.size + 1) := by show _ = _; rw [hw1]; simp
  have c0 : w1.cell? ⟨w.heap.size, 0, none⟩ = some (.slice av m cv) := by rw [hw1]; go_simp
  have c1 : w1.cell? ⟨w.heap.size, 1, none⟩ = some (.pointer (some ⟨pr, 0, none⟩)) := by rw [hw1]; go_simp
  obtain ⟨wm, hmk, om, gm⟩ := run_make_full (P := Tryz.prog) w1 w1.heap.size 58 3 j0 (.int .i64 0) 1 Tryz.underlying58 hj yz0 yz1 .i64 .i64 m (by rw [yz2]; omega) (by unfold maxLen; omega) (Nat.le_refl _)
  have EM : Hid (Ext w1 wm) := ⟨gm.os, gm.tape, gm.output, gm.size, fun i hi => gm.block i hi (by simp)⟩
  have cm0 := keep EM.out c0
  have cm1 := keep EM.out c1
  have hm0 : ((m : Int) == 0) = false := by rw [int_zero]; simp; omega
  have HW1 := Lib.hid hw1
  have OM : Hid (wm.ownsRow w1.heap.size 3 1 (.slice (some ⟨w1.heap.size, 0, none⟩) m m) m ((List.replicate m 0).map numV)) := by
    show World.ownsRow _ _ _ _ _ _ _
    have e : (madeCells (Value.int .i64 0).cells (m * 1)).toList = (List.replicate m 0).map numV := by
      rw [Nat.mul_one, List.map_replicate]
      apply List.ext_getElem
      · simp [madeCells]
      · intro i h1 h2
        simp [madeCells, Value.cells, Nat.mod_one]
    rw [← e]
    exact om
  have MSZ : Hid (w1.heap.size < wm.heap.size) := (OM.out.lt _ rfl).2
  clear om gm hw1
  go_enter Tryz.func84, Tryz.ntmps84
  rw [HW1.out] at hmk
  go_wp2
  obtain ⟨go, hgo⟩ : ∃ go, w.heap.size + 1 = go := ⟨_, rfl⟩
  obtain ⟨p3, hp3⟩ : ∃ p3, w.heap.size = p3 := ⟨_, rfl⟩
  have GO : Hid (w1.heap.size = go ∧ p3 < go ∧ w.heap.size = p3) := by refine ⟨by rw [S1.out]; exact hgo, by omega, hp3⟩
  rw [hgo, hp3]
  rw [hp3] at cm0 cm1
  rw [GO.out.1] at OM MSZ
  have CM0 := Lib.hid cm0
  have CM1 := Lib.hid cm1
  clear hmk hgo hp3 HW1 cm0 cm1 c0 c1 hm0
  have PL : Hid (pm < w.heap.size) := H.out.ty.lt
  have CL : Hid (∀ b, C b → b < s ∧ b < w.heap.size) := fun b hb => ⟨HC.out b hb, (H.out.low b hb).2⟩
  have WM0 : Hid (MatB wm C B0 pm an n cn (atN at_ (vars.take 0) pts.length) pts tl) := by
    have : atN at_ (vars.take 0) pts.length = at_ := by funext v; unfold atN; simp
    show MatB _ _ _ _ _ _ _ _ _ _
    rw [this]
    exact H.out.ext (ext_trans E1.out EM.out)
  have EWM : Hid (Ext w wm) := ext_trans E1.out EM.out
  go_loopw [20] (fun u wj => ∃ k : Nat, k ≤ m ∧ u = .int .i64 k ∧ ∃ C' : Nat → Prop, MatB wj C' B0 pm an n cn (atN at_ (vars.take k) pts.length) pts tl ∧ ButS (fun b => C b ∨ b = go) wm wj ∧ (∀ b, C' b → C b ∨ wm.heap.size ≤ b) ∧ wj.ownsRow go 3 1 (.slice (some ⟨go, 0, none⟩) m m) m (((List.range k) ++ List.replicate (m - k) 0).map numV)) (fun u _ => m - (intOf u).toNat)
  case atStart => exact ⟨0, by omega, rfl, C, WM0.out, ButS.refl _ _, fun _ h => .inl h, OM.out⟩
  case round =>
    obtain ⟨k, hk, rfl, C', hmb, hbt, hcc, hown⟩ := hrel
    have MB := Lib.hid hmb
    have BT := Lib.hid hbt
    have CC := Lib.hid hcc
    have OW := Lib.hid hown
    clear hmb hbt hcc hown
    have gol := GO.out
    have mz := MSZ.out
    have np3 : ¬ (C p3 ∨ p3 = go) := fun q => by
      rcases q with q | q
      · have := (CL.out p3 q).2; omega
      · omega
    have d0 := BT.out.cell np3 CM0.out
    have d1 := BT.out.cell np3 CM1.out
    have nav : ∀ b, (Value.slice av m cv).ownBlock = some b → ¬ (C b ∨ b = go) := fun b hb q => by
      have hl := HVV.out.lt b hb
      rcases q with q | q
      · have := (CL.out b q).1; omega
      · omega
    have HV2 := BT.out.own (up_ext HVV.out EWM.out) nav
    by_cases hlt : k < m
    · have hki : (k : Int) < (m : Int) := by omega
      obtain ⟨vk, hvk⟩ : ∃ vk, vars[k]? = some vk := ⟨_, List.getElem?_eq_getElem (by rw [HVL.out]; exact hlt)⟩
      have hvn := HLT.out vk (List.mem_of_getElem? hvk)
      obtain ⟨gv, hgv⟩ : ∃ g, av = some ⟨g, 0, none⟩ := by
        obtain ⟨g, c', e, _⟩ := own_formS HVV.out hm
        cases e
        exact ⟨g, rfl⟩
      subst hgv
      have hcv : wr.cell? ⟨gv, k, none⟩ = some (.int .i64 (vk : Nat)) := by
        have h4 := HV2.cells (g := gv) rfl k (numV vk) (by rw [List.getElem?_map, hvk]; rfl)
        rwa [Addr.add_lit, Nat.zero_add] at h4
      have hgo1 : wr.cell? ⟨go, k, none⟩ = some (.int .i64 0) := by
        have h4 := OW.out.cells (g := go) rfl k (numV 0) (by
          rw [List.getElem?_map, List.getElem?_append_right (by simp), List.length_range, Nat.sub_self, List.getElem?_replicate, if_pos (by omega)]
          rfl)
        rwa [Addr.add_lit, Nat.zero_add] at h4
      have hgo2 : wr.frozen? ⟨go, k, none⟩ = false := OW.out.frozenAt _
      go_wp2
      have ngo : ¬ C' go := fun q => by
        rcases CC.out go q with q | q
        · have := (CL.out go q).2; omega
        · omega
      have BG : ButS (fun b => b = go) wr (wr.setCell ⟨go, k, none⟩ (.int .i64 (k : Nat))) := (ButS.refl (fun b => b = go) wr).set (.inl rfl) _ _
      have MB2 := MB.out.far BG (fun b hb e => by subst e; exact ngo hb)
      have OW2 : Hid ((wr.setCell ⟨go, k, none⟩ (.int .i64 (k : Nat))).ownsRow go 3 1 (.slice (some ⟨go, 0, none⟩) m m) m (((List.range (k + 1)) ++ List.replicate (m - (k + 1)) 0).map numV)) := by
        have h4 := (OW.out.stored k (numV k)).1
        have e : ((List.range k ++ List.replicate (m - k) 0).map numV).set k (numV k) = ((List.range (k + 1) ++ List.replicate (m - (k + 1)) 0).map numV) := by
          rw [← List.map_set]
          congr 1
          rw [List.set_append_right _ _ (by simp), List.length_range, Nat.sub_self, List.range_succ, show m - k = (m - (k + 1)) + 1 by omega, List.replicate_succ, List.set_cons_zero]
          simp
        rw [e] at h4
        exact h4
      have BT2 := BT.out.trans (BG.mono (fun b _ e => .inr e))
      generalize wr.setCell ⟨go, k, none⟩ (.int .i64 (k : Nat)) = W2 at MB2 OW2 BT2 BG ⊢
      have MD := MB2.ext (ext_drew (Below.refl _ W2))
      have hz2 : wm.heap.size ≤ W2.heap.size := BT2.size
      obtain ⟨tv, t1, t2, t3, t4⟩ := MD.tries
      obtain ⟨at9, ct9, rfl, _⟩ := own_form t3
      obtain ⟨ga, ca, a1, a2⟩ := MD.at_
      obtain ⟨fv, f1, _⟩ := a2.each
      obtain ⟨x1, x2, x3, _⟩ := f1 vk hvn
      have hvn2 : vk ∉ vars.take k := fun hm => by
        obtain ⟨i, hi⟩ := List.mem_iff_getElem?.1 hm
        have hil := (List.getElem?_eq_some_iff.1 hi).1
        rw [List.length_take] at hil
        rw [List.getElem?_take, if_pos (by omega)] at hi
        have := List.pairwise_iff_getElem.1 HUP.out i k (by omega) (by rw [HVL.out]; exact hlt) (by omega)
        obtain ⟨_, e1⟩ := List.getElem?_eq_some_iff.1 hi
        obtain ⟨_, e2⟩ := List.getElem?_eq_some_iff.1 hvk
        omega
      obtain ⟨xv, hxv⟩ : ∃ xv, fv vk = xv := ⟨_, rfl⟩
      rw [hxv] at x1 x3
      have eat : atN at_ (vars.take k) pts.length vk = at_ vk := by unfold atN; rw [if_neg hvn2]
      obtain ⟨fa, fc, e9, _⟩ := own_form x3
      subst e9
      have PUSHQ : Hid (∀ g c w6, w6.ownsRow B0 3 1 (.slice (some ⟨g, 0, none⟩) ((at_ vk).length + 1) c) ((at_ vk).length + 1) ((at_ vk).map numV ++ [numV pts.length]) → (W2.drew.alloc (.cells #[.int .i64 (pts.length : Nat)] 3)).grownBy w6 (Value.slice fa (at_ vk).length fc).ownBlock → ((Value.slice fa (at_ vk).length fc).ownBlock = some g ∨ W2.heap.size ≤ g) → w6.cell? ⟨pm, 2, none⟩ = some (.slice (some ⟨ga, 0, none⟩) n ca) ∧ w6.cell? ⟨ga, vk, none⟩ = some (.slice fa (at_ vk).length fc) ∧ w6.frozen? ⟨ga, vk, none⟩ = false ∧ ∃ C2, MatB (w6.setCell ⟨ga, vk, none⟩ (.slice (some ⟨g, 0, none⟩) ((at_ vk).length + 1) c)) C2 B0 pm an n cn (atN at_ (vars.take (k + 1)) pts.length) pts tl ∧ MatMv C' C2 W2.drew (w6.setCell ⟨ga, vk, none⟩ (.slice (some ⟨g, 0, none⟩) ((at_ vk).length + 1) c))) := fun g c w6 p1 p2 p3 => by
        have P := MD.at_push (v := vk) (z := pts.length) (w6 := w6) (g := g) (c := c) (x := .slice fa (atN at_ (vars.take k) pts.length vk).length fc) (o := .cells #[.int .i64 (pts.length : Nat)] 3) a1 hvn x1
        rw [eat] at P
        have Q := P p1 p2 p3
        rw [← eat, atN_snoc hvn2, eat, ← take_at hvk] at Q
        refine ⟨?_, Q⟩
        rw [eat] at x3
        exact (((ButS.refl (fun b => (Value.slice fa (at_ vk).length fc).ownBlock = some b) _).alloc _).grown p2 (fun b e => .inl e)).cell (fun e => (own_ty x3 e).ne MD.ty (by decide) rfl) a1
      rw [eat] at x1 x3
      have OWF : Hid (W2.drew.ownsRow B0 3 1 (.slice fa (at_ vk).length fc) (at_ vk).length (((at_ vk).map fun (n : Nat) => (n : Int)).map intV)) := by
        show World.ownsRow _ _ _ _ _ _ _
        rw [List.map_map]
        exact x3
      have hvni : (vk : Int) < (n : Int) := by omega
      have hal := HAT.out vk
      have hb2 : B0 ≤ W2.drew.heap.size := by show B0 ≤ W2.heap.size; have := EWM.out.size; omega
      obtain ⟨la, hla⟩ : ∃ la, (at_ vk).length = la := ⟨_, rfl⟩
      have HLA := Lib.hid hla
      rw [hla] at x1 PUSHQ OWF hal
      have x1o := fun o => keep (ext_alloc (Below.refl _ W2) o) (show W2.cell? _ = _ from x1)
      have a1o := fun o => keep (ext_alloc (Below.refl _ W2) o) (show W2.cell? _ = _ from a1)
      have t1o := fun o => keep (ext_alloc (Below.refl _ W2) o) (show W2.cell? _ = _ from t1)
      clear hla x2 x3 f1 a2 t2 t3 t4 MD MB2 eat hxv hcv hgo1 hgo2
      have mixed : Tryz.prog.follows .mixedOrders = true := by kernel_rfl
      go_region_law (first
        | (refine step_push_int W2.drew (pts.length : Nat) B0 fa la fc ((at_ vk).map fun (n : Nat) => (n : Int)) OWF.out hal hb2 (by rfl) _ _ (by rfl) (by rfl) (by rfl) ?_; intro g6 c6 w6 p1 p2 p4; obtain ⟨u0, u1, u2, C2, M2, V2⟩ := PUSHQ.out g6 c6 w6 (by rw [List.map_map] at p1; exact p1) p2 (p4.imp id (fun e => by rw [e]; simp)); have M2h := Lib.hid M2; have V2h := Lib.hid V2; clear p1 p2 p4 M2 V2)
        | fail)
      all_goals
        go_wp2
        go_roundw
        case rel =>
          refine ⟨k + 1, by omega, by go_num, C2, M2h.out, env_step (BT2.ext (ext_drew (Below.refl _ _))) V2h.out.1 (fun b hb => (CC.out b hb).imp .inl id), fun b hb => ?_, V2h.out.1.own (up_ext OW2.out (ext_drew (Below.refl _ _))) (fun b e q => by cases e; exact ngo q)⟩
          rcases V2h.out.2 b hb with q | q
          · exact CC.out b q
          · exact .inr (Nat.le_trans hz2 q)
        case measure => simp [intOf]; omega
    · obtain rfl : k = m := by omega
      have hge : ¬ (k : Int) < (k : Int) := by omega
      have hfull : vars.take k = vars := List.take_of_length_le (by have := HVL.out; omega)
      rw [hfull] at MB
      have TGO : Ty wm go 3 := own_ty OM.out rfl
      have hpl : pr < wm.heap.size := Nat.lt_of_lt_of_le hprl EWM.out.size
      have HR2 : Hid (RowsV wr (pr + 1) pr k rs) := ((HR.out.ext EWM.out).but2 BT.out (fun q => by
        rcases q with q | q
        · have := (CL.out pr q).1; omega
        · omega) (fun g hg q => by
        have h4 := ((HR.out.ext EWM.out).item_ty hg)
        rcases q with q | q
        · have := (CL.out g q).1; have := h4.2; omega
        · subst q; exact h4.1.ne TGO (by decide) rfl) (fun b hb => by
        rcases hb with q | q
        · exact .inl (by have := (CL.out b q).1; omega)
        · subst q; exact .inr (fun h4 => h4.ne TGO (by decide) rfl)))
      have IO : Hid (IntsAt wr (some ⟨go, 0, none⟩) k (upto k)) := by
        refine ⟨by unfold maxLen; omega, by simp [upto], fun i c hc => ⟨go, 0, rfl, ?_⟩⟩
        have h4 := OW.out.cells (g := go) rfl i (.int .i64 c) (by
          rw [Nat.sub_self, List.replicate_zero, List.append_nil]
          unfold upto at hc
          rw [List.getElem?_map] at hc ⊢
          obtain ⟨j, hj, e⟩ := Option.map_eq_some_iff.1 hc
          rw [hj, ← e]
          rfl)
        rw [Addr.add_lit, Nat.zero_add] at h4
        simpa [intAt] using h4
      have BL := Lib.hid (c_buildL (pr + 1) pr k rs (upto k) (some ⟨go, 0, none⟩) k k wr HR2.out (by have := HOK.out.few; omega) (fun r hr => (HOK.out.row r hr).1) hm64 IO.out (Nat.le_refl _))
      obtain ⟨tv, t1, t2, t3, t4⟩ := MB.out.tries
      obtain ⟨at9, ct9, e9, _⟩ := own_form t3
      subst e9
      have TOWN : Hid (∀ w5, Ext wr w5 → w5.cell? ⟨pm, 1, none⟩ = some (.slice at9 pts.length ct9) ∧ w5.ownsRow B0 151 1 (.slice at9 pts.length ct9) pts.length (pts.map ptrV) ∧ B0 ≤ w5.heap.size) := fun w5 e5 => ⟨keep e5 t1, up_ext t3 e5, by have := e5.size; have := BT.out.size; have := EWM.out.size; omega⟩
      clear t1 t2 t3 t4 hfull
      go_wp2_with (first
        | (go_at_call 101; (with_reducible refine BL.out.mono ?_); rintro e w5 (⟨hn0, _⟩ | ⟨_, pt, ways, rfl, hp1, hp2, hp3, e5, hw1, hw2, hw3⟩); (exact absurd (upto_ok k) hn0); obtain ⟨o1, o2, o3⟩ := TOWN.out w5 e5; have o1o := fun o => keep (ext_alloc (Below.refl _ w5) o) o1)
        | (at_builtin; go_loud (refine wpList_append_lies _ rfl _ _ 133 rfl B0 151 i0 (.pointer none) 1 8 Tryz.underlying133 hi hz0 hz1 hz2 rfl (by decide) (.slice at9 pts.length ct9) pts.length (pts.map ptrV) rfl (o2.alloc _) ⟨w5.heap.size, 0, none⟩ 1 1 [ptrV pt] rfl rfl (news1 _ _ _) (fun x hx => by cases List.mem_singleton.1 hx; rfl) (Nat.zero_lt_one) (by unfold maxLen; omega) (by omega) (size_alloc_le o3) _ rfl ?_); intro g7 p7 w7 own7 q7 hat7 hlt7; obtain ⟨u1, u2, C2, M2, V2⟩ := (MB.out.ext e5).try_push (pt := pt) o1 own7 q7 (hat7.imp id (fun e => by rw [e]; simp))))
      go_end0
      have low' : ∀ b, C' b → b < wr.heap.size := fun b hb => (MB.out.low b hb).2
      have hbig : w.heap.size ≤ wm.heap.size := EWM.out.size
      have hbig2 : wm.heap.size ≤ wr.heap.size := BT.out.size
      have BW : ButS C w wr := env_step ((ButS.refl C w).ext EWM.out) BT.out (fun b hb => by
        rcases hb with q | q
        · exact .inl q
        · exact .inr (by omega))
      refine ⟨⟨_, rfl⟩, C2, pt, ways, wr.heap.size, w5.heap.size, M2, ⟨env_step (BW.ext e5) V2.1 (fun b hb => (CC.out b hb).imp id (fun q => by omega)), fun b hb => ?_⟩, ?_, fun x => ?_, hw3, by omega, ?_, fun b hb => ?_, V2.1.size⟩
      · rcases V2.2 b hb with q | q
        · exact (CC.out b q).imp id (fun q => by omega)
        · exact .inr (by have := e5.size; omega)
      · rw [HVL.out]
        have : (upto k).length = k := by simp [upto]
        rw [this] at hw1
        exact hw1
      · rw [hw2 x]
        constructor
        · rintro ⟨r, hr, e⟩
          rw [upto_proj (HOK.out.row r hr).1] at e
          rw [← e]
          exact hr
        · intro hx
          exact ⟨x, hx, upto_proj (HOK.out.row x hx).1⟩
      · have this : (upto k).length = vars.length := by rw [HVL.out]; simp [upto]
        rw [this] at hp3
        refine Stat.move (w := w5) (fun w2 h2 => hp3 w2 (h2.mono fun b hb q => by rcases q with q | q; exact q; omega)) V2.1 (fun b hb => .inl (low' b hb))
      · rcases V2.2 b hb with q | q
        · exact .inl (low' b q)
        · exact .inr q
end Go.Proofs.YtpgbenijjodoeaaGreat
