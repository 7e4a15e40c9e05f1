/- The walk of the law's apart. -/
import Derived.Test.YtcphjfggjjonpaaGrown
import Derived.Test.YtcphjfggjjonpaaSpoil
namespace Go.Proofs.Ytcphjfggjjonpaa
open Go.ChangeShapes Go.WideShapes Go.ChangeAt Go.RowKit
theorem info_tl : (Try.prog.info? 22).map (fun i => (i.zero, i.size, i.bytes)) = some (some (.slice none 0 0), 1, 24) := by kernel_rfl
/-- The mark at place k of list i. -/
def mkT (i k : Nat) : Value := .int .i64 (-1000 * (i : Int) - (k : Int) - 1)
/-- The term that is put behind list i as number k. -/
def elT (i k : Nat) : List Value := [.int .i64 (1000 * (i : Int) + (k : Int)), .string ⟨#[]⟩]
theorem elT_len (i k : Nat) : (elT i k).length = 2 := rfl
theorem elT_one (i k : Nat) : ∀ u ∈ elT i k, u.oneCell' = true := by
  intro u hu
  simp [elT] at hu
  rcases hu with rfl | rfl <;> rfl
theorem news2 (w : World) (u0 u1 : Value) (t : TypeId) : ∀ j x, [u0, u1][j]? = some x → (w.alloc (.cells #[u0, u1] t)).cell? ((⟨w.heap.size, 0, none⟩ : Addr).add j) = some x := by
  intro j x hx
  rw [Addr.add_lit, World.cell?_alloc_new, Nat.zero_add]
  simpa using hx
/-- Before list i, place k is marked. -/
structure MarkSt (W : World) (base : Nat) (ls : List LRow) (i k : Nat) (w : World) : Prop where
  but : ButS (Blocks ls) W w
  rows : ∃ ls2 : List LRow, ls2.map (fun l => (l.v, l.n)) = ls.map (fun l => (l.v, l.n)) ∧ (∀ l ∈ ls2, w.ownsRow base 37 2 l.v l.n l.xs) ∧ (∀ j l, j < i → ls2[j]? = some l → ∀ t, t < l.n → l.xs[t * 2]? = some (mkT j t)) ∧ ∀ l, ls2[i]? = some l → ∀ t, t < k → l.xs[t * 2]? = some (mkT i t)
theorem vn_at {ls ls2 : List LRow} (h : ls2.map (fun l => (l.v, l.n)) = ls.map (fun l => (l.v, l.n))) {i : Nat} {l : LRow} (hl : ls[i]? = some l) : ∃ l2, ls2[i]? = some l2 ∧ l2.v = l.v ∧ l2.n = l.n := by
  have h1 : (ls2.map (fun l => (l.v, l.n)))[i]? = some (l.v, l.n) := by rw [h, List.getElem?_map, hl]; rfl
  rw [List.getElem?_map] at h1
  obtain ⟨l2, h2, h3⟩ := Option.map_eq_some_iff.1 h1
  exact ⟨l2, h2, congrArg (·.1) h3, congrArg (·.2) h3⟩
theorem vn_len {ls ls2 : List LRow} (h : ls2.map (fun l => (l.v, l.n)) = ls.map (fun l => (l.v, l.n))) : ls2.length = ls.length := by
  have := congrArg List.length h
  simpa using this
theorem vn_v {ls ls2 : List LRow} (h : ls2.map (fun l => (l.v, l.n)) = ls.map (fun l => (l.v, l.n))) : ls2.map (·.v) = ls.map (·.v) := by
  have := congrArg (List.map Prod.fst) h
  simpa [List.map_map, Function.comp_def] using this
theorem vn_blocks {ls ls2 : List LRow} (h : ls2.map (fun l => (l.v, l.n)) = ls.map (fun l => (l.v, l.n))) (b : Nat) : Blocks ls2 b → Blocks ls b := by
  rintro ⟨l, hl, hb⟩
  have : l.v ∈ ls2.map (·.v) := List.mem_map.2 ⟨l, hl, rfl⟩
  rw [vn_v h] at this
  obtain ⟨l', hl', e⟩ := List.mem_map.1 this
  exact ⟨l', hl', by rw [e]; exact hb⟩
theorem vn_apart {ls ls2 : List LRow} (h : ls2.map (fun l => (l.v, l.n)) = ls.map (fun l => (l.v, l.n))) (hp : ls.Pairwise fun a b => a.v.ownBlock = none ∨ a.v.ownBlock ≠ b.v.ownBlock) : ls2.Pairwise fun a b => a.v.ownBlock = none ∨ a.v.ownBlock ≠ b.v.ownBlock := by
  have h1 : (ls.map (·.v)).Pairwise fun a b => a.ownBlock = none ∨ a.ownBlock ≠ b.ownBlock := List.pairwise_map.2 hp
  rw [← vn_v h] at h1
  exact List.pairwise_map.1 h1
theorem MarkSt.start {W : World} {base : Nat} {ls : List LRow} (h : ∀ l ∈ ls, W.ownsRow base 37 2 l.v l.n l.xs) : MarkSt W base ls 0 0 W :=
  ⟨ButS.refl _ _, ls, rfl, h, fun _ _ hj => absurd hj (Nat.not_lt_zero _), fun _ _ _ ht => absurd ht (Nat.not_lt_zero _)⟩
theorem MarkSt.next {W w : World} {base : Nat} {ls : List LRow} {i k : Nat} {l : LRow} (h : MarkSt W base ls i k w) (hl : ls[i]? = some l) (hk : l.n ≤ k) : MarkSt W base ls (i + 1) 0 w := by
  obtain ⟨ls2, h1, h2, h3, h4⟩ := h.rows
  refine ⟨h.but, ls2, h1, h2, fun j l' hj hl' t ht => ?_, fun _ _ _ ht => absurd ht (Nat.not_lt_zero _)⟩
  by_cases he : j = i
  · subst he
    obtain ⟨l2, e1, _, e3⟩ := vn_at h1 hl
    rw [e1] at hl'
    cases hl'
    exact h4 _ e1 t (by omega)
  · exact h3 j l' (by omega) hl' t ht
theorem MarkSt.step {W w : World} {base : Nat} {ls : List LRow} {i k g c : Nat} {l : LRow} (hp : ls.Pairwise fun a b => a.v.ownBlock = none ∨ a.v.ownBlock ≠ b.v.ownBlock) (h : MarkSt W base ls i k w) (hl : ls[i]? = some l) (hv : l.v = .slice (some ⟨g, 0, none⟩) l.n c) (hk : k < l.n) :
    MarkSt W base ls i (k + 1) ((w.setCell ⟨g, k * 2, none⟩ (mkT i k)).setCell ⟨g, k * 2 + 1, none⟩ (.string ⟨#[]⟩)) := by
  obtain ⟨ls2, h1, h2, h3, h4⟩ := h.rows
  obtain ⟨l2, e1, e2, e3⟩ := vn_at h1 hl
  have hm2 := List.mem_of_getElem? e1
  have hrow := h2 l2 hm2
  rw [e2, hv] at hrow
  rw [e3] at hrow
  have hlen := hrow.1
  have s1 := (hrow.stored (k * 2) (mkT i k)).1
  have s2 := (s1.stored (k * 2 + 1) (.string ⟨#[]⟩)).1
  have hS : Blocks ls g := ⟨l, List.mem_of_getElem? hl, by rw [hv]; rfl⟩
  refine ⟨(h.but.set (.inl hS) _ _).set (.inl hS) _ _, ls2.set i ⟨l.v, l.n, (l2.xs.set (k * 2) (mkT i k)).set (k * 2 + 1) (.string ⟨#[]⟩)⟩, ?_, fun l' hl' => ?_, fun j l' hj hl' t ht => ?_, fun l' hl' t ht => ?_⟩
  · rw [List.map_set, ← h1]
    refine List.ext_getElem? fun j => ?_
    by_cases hj : i = j
    · subst hj
      rw [List.getElem?_set_self (by rw [List.length_map]; exact (List.getElem?_eq_some_iff.1 e1).1), List.getElem?_map, e1]
      simp [e2, e3]
    · rw [List.getElem?_set_ne hj]
  · obtain ⟨j, hj⟩ := List.mem_iff_getElem?.1 hl'
    by_cases hji : i = j
    · subst hji
      rw [List.getElem?_set_self (List.getElem?_eq_some_iff.1 e1).1] at hj
      cases hj
      dsimp only
      rw [hv]
      exact s2
    · rw [List.getElem?_set_ne hji] at hj
      have hr := h2 l' (List.mem_of_getElem? hj)
      have hne : l'.v.ownBlock = none ∨ l'.v.ownBlock ≠ some g := by
        cases hx : l'.v.ownBlock with
        | none => exact .inl rfl
        | some b =>
          refine .inr fun e => ?_
          cases e
          exact apart_at (vn_apart h1 hp) (fun e => hji e.symm) hj e1 hx (by rw [e2, hv]; rfl)
      exact own_set_other (own_set_other hr (a := ⟨g, k * 2, none⟩) hne _) (a := ⟨g, k * 2 + 1, none⟩) hne _
  · rw [List.getElem?_set_ne (by omega)] at hl'
    exact h3 j l' hj hl' t ht
  · rw [List.getElem?_set_self (List.getElem?_eq_some_iff.1 e1).1] at hl'
    cases hl'
    dsimp only
    rw [List.getElem?_set_ne (by omega)]
    by_cases he : t = k
    · subst he
      rw [List.getElem?_set_self (by omega)]
    · rw [List.getElem?_set_ne (by omega)]
      exact h4 l2 e1 t (by omega)
theorem wrapA {i : Nat} (hi : i ≤ 1000000) : IntKind.i64.wrap (-1000 * (i : Int)) = -1000 * (i : Int) := by
  rw [IntKind.wrap_i64]
  omega
theorem wrapB {i k : Nat} (hi : i ≤ 1000000) (hk : k ≤ 5864062014634) : IntKind.i64.wrap (-1000 * (i : Int) - (k : Int)) = -1000 * (i : Int) - (k : Int) := by
  rw [IntKind.wrap_i64]
  omega
theorem wrapC {i k : Nat} (hi : i ≤ 1000000) (hk : k ≤ 5864062014634) : IntKind.i64.wrap (-1000 * (i : Int) - (k : Int) - 1) = -1000 * (i : Int) - (k : Int) - 1 := by
  rw [IntKind.wrap_i64]
  omega
theorem wrapD {i : Nat} (hi : i ≤ 1000000) : IntKind.i64.wrap (1000 * (i : Int)) = 1000 * (i : Int) := by
  rw [IntKind.wrap_i64]
  omega
theorem wrapE {i k : Nat} (hi : i ≤ 1000000) (hk : k ≤ 5864062014834) : IntKind.i64.wrap (1000 * (i : Int) + (k : Int)) = 1000 * (i : Int) + (k : Int) := by
  rw [IntKind.wrap_i64]
  omega
theorem wrapF {i n q : Nat} (hi : i ≤ 1000000) (hq : q < 70) : IntKind.i64.wrap (1000 * (i : Int) + ((n : Int) + (q : Int)) - (n : Int)) = 1000 * (i : Int) + (q : Int) := by
  rw [IntKind.wrap_i64]
  omega
theorem wrapE2 {i n q : Nat} (hi : i ≤ 1000000) (hn : n ≤ 5864062014634) (hq : q < 70) : IntKind.i64.wrap (1000 * (i : Int) + ((n : Int) + (q : Int))) = 1000 * (i : Int) + ((n : Int) + (q : Int)) := by
  rw [IntKind.wrap_i64]
  omega
theorem wrapG {n : Nat} (hn : n ≤ 5864062014634) : IntKind.i64.wrap ((n : Int) + 70) = (n : Int) + 70 := by
  rw [IntKind.wrap_i64]
  omega
set_option maxRecDepth 100000 in
set_option maxHeartbeats 4000000 in
theorem c_apart (ls : List LRow) (a : Option Addr) (N cap base : Nat) (w : World) (hrow : w.ownsRow base 22 1 (.slice a N cap) N (ls.map (·.v))) (hown : ∀ l ∈ ls, w.ownsRow base 37 2 l.v l.n l.xs) (hsm : ∀ l ∈ ls, l.n ≤ 5864062014634) (hap : ls.Pairwise fun a b => a.v.ownBlock = none ∨ a.v.ownBlock ≠ b.v.ownBlock) (hN : N ≤ 1000000) (hb : base ≤ w.heap.size) :
    Calls Try.prog 34 #[.slice a N cap] w fun e w' => e = .returned (.bool true) ∧ ButS (Blocks ls) w w' := by
  have hlen : ls.length = N := by have := hrow.1; rw [List.length_map] at this; omega
  have hlt : ∀ l ∈ ls, ∀ b, l.v.ownBlock = some b → b < w.heap.size := fun l hl b e => ((hown l hl).lt b e).2
  have hout : ∀ b, (Value.slice a N cap).ownBlock = some b → ¬ Blocks ls b := by
    rintro b e ⟨l, hl, e2⟩
    rcases own_apart hrow (hown l hl) (by decide) with h | h
    · rw [h] at e; cases e
    · exact h (e.trans e2.symm)
  have HROW := Lib.hid hrow
  have HOWN := Lib.hid hown
  have HSM := Lib.hid hsm
  have HAP := Lib.hid hap
  have HLT := Lib.hid hlt
  have HOUT := Lib.hid hout
  have HLEN := Lib.hid hlen
  clear hrow hown hsm hap hlt hout hlen
  obtain ⟨i0, hi, hz0, hz1, hz2⟩ := info_parts info_term
  obtain ⟨j0, jj, jj0, jj1, jj2⟩ := info_parts info_tl
  go_enter Try.func34, Try.ntmps34
  go_wp2
  go_loopw [3] (fun v wj => ∃ i : Nat, i ≤ N ∧ v = .int .i64 (i : Int) ∧ MarkSt w base ls i 0 wj) (fun v _ => N - (intOf v).toNat)
  case atStart => exact ⟨0, by omega, rfl, MarkSt.start HOWN.out⟩
  case round =>
    obtain ⟨i, hiN, rfl, hM⟩ := hrel
    have HM := Lib.hid hM
    by_cases hlt : i < N
    · obtain ⟨l, hl⟩ : ∃ l, ls[i]? = some l := ⟨_, List.getElem?_eq_getElem (by rw [HLEN.out]; exact hlt)⟩
      have hlm := List.mem_of_getElem? hl
      obtain ⟨al, cl, hlv, hlc⟩ := own_form (HOWN.out l hlm)
      have HLV := Lib.hid hlv
      have HL := Lib.hid hl
      have hki : (i : Int) < (N : Int) := by omega
      have hnl := HSM.out l hlm
      have HLM := Lib.hid hlm
      obtain ⟨gr, hgr⟩ : ∃ g, a = some ⟨g, 0, none⟩ := by
        obtain ⟨g, e, _⟩ := row_val HROW.out hl
        exact ⟨g, e⟩
      subst hgr
      clear hM hl hlv hlm
      go_upto_region 5 with (fail)
      go_loopw [4] (fun v wj => ∃ k : Nat, k ≤ l.n ∧ v = .int .i64 (k : Int) ∧ MarkSt w base ls i k wj) (fun v _ => l.n - (intOf v).toNat)
      case atStart => exact ⟨0, by omega, rfl, HM.out⟩
      case round =>
        obtain ⟨k, hk, rfl, hS⟩ := hrel
        have HS := Lib.hid hS
        obtain ⟨_, e, rc⟩ := row_val (hS.but.own HROW.out HOUT.out) HL.out
        cases e
        rw [HLV.out] at rc
        by_cases hkn : k < l.n
        · have hkk : (k : Int) < (l.n : Int) := by omega
          have hrow2 : ∃ xs, wr.ownsRow base 37 2 (.slice al l.n cl) l.n xs := by
            obtain ⟨ls2, h1, h2, _⟩ := hS.rows
            obtain ⟨l2, e1, e2, e3⟩ := vn_at h1 HL.out
            have := h2 l2 (List.mem_of_getElem? e1)
            rw [e2, HLV.out, e3] at this
            exact ⟨_, this⟩
          obtain ⟨xs2, hrow2⟩ := hrow2
          obtain ⟨gl, pl, el, _⟩ := own_formS hrow2 (by omega)
          cases el
          have AR : AnyRow wr base 37 2 gl l.n cl := ⟨xs2, hrow2⟩
          obtain ⟨u0, t0⟩ := AR.cell (j := k * 2) (by omega)
          obtain ⟨u1, t1⟩ := AR.cell (j := k * 2 + 1) (by omega)
          have f0 := AR.free (k * 2)
          have f1 := AR.free (k * 2 + 1)
          have hst := MarkSt.step HAP.out HS.out HL.out HLV.out hkn
          have HST := Lib.hid hst
          have wA := wrapA (i := i) (by omega)
          have wB := wrapB (i := i) (k := k) (by omega) (by omega)
          have wC := wrapC (i := i) (k := k) (by omega) (by omega)
          clear hS hst hrow2 AR
          go_wp2
          go_roundw
          case rel => exact ⟨k + 1, by omega, by go_num, HST.out⟩
          case measure => simp [intOf]; omega
        · obtain rfl : k = l.n := by omega
          have HNX := Lib.hid (HS.out.next HL.out (Nat.le_refl _))
          have hge : ¬ (l.n : Int) < (l.n : Int) := by omega
          clear hS
          go_wp2
          go_roundw
          case rel => exact ⟨i + 1, by omega, by go_num, HNX.out⟩
          case measure => simp [intOf]; omega
    · obtain rfl : i = N := by omega
      obtain ⟨hbut, ls2, hvn, hown2, hmark, _⟩ := hM
      have HBUT := Lib.hid hbut
      have HVN := Lib.hid hvn
      have HOWN2 := Lib.hid hown2
      have HMARK := Lib.hid hmark
      have HROW2 := Lib.hid (hbut.own HROW.out HOUT.out)
      have HAP2 := Lib.hid (vn_apart hvn HAP.out)
      have HLT2 : Hid (∀ l ∈ ls2, ∀ b, l.v.ownBlock = some b → b < wr.heap.size) := fun l hl b e => ((hown2 l hl).lt b e).2
      have hge : ¬ (i : Int) < (i : Int) := by omega
      clear hbut hvn hown2 hmark HM
      go_upto_region 10 with (fail)
      clear hge
      obtain ⟨wo, rfl⟩ : ∃ x : World, x = wr := ⟨_, rfl⟩
      go_loopw [5, 6] (fun v5 v6 wj => ∃ t : Nat, t ≤ i ∧ v6 = .int .i64 (t : Int) ∧ Gone wo base 37 2 22 ls2 70 (fun t => ksOf (elT t) 70) t v5 wj) (fun _ v _ => i - (intOf v).toNat)
      case atStart => exact ⟨0, by omega, rfl, Gone.start HOWN2.out⟩
      case round =>
        obtain ⟨t, hti, rfl, hG⟩ := hrel
        have hrow2 : wr.ownsRow base 22 1 (.slice a i cap) i (ls.map (·.v)) := hG.but.own HROW2.out (fun b e hB => HOUT.out b e (vn_blocks HVN.out b hB))
        have HG := Lib.hid hG
        obtain ⟨vs, hvs, hdone⟩ := hG.done
        obtain ⟨a3, c3, rfl, _⟩ := own_form hvs
        have HVS := Lib.hid hvs
        have HDN := Lib.hid hdone
        by_cases hlt : t < i
        · obtain ⟨l1, hl1⟩ : ∃ l, ls[t]? = some l := ⟨_, List.getElem?_eq_getElem (by rw [HLEN.out]; exact hlt)⟩
          obtain ⟨l, hl, e2, e3⟩ := vn_at HVN.out hl1
          obtain ⟨gr, rfl, rc⟩ := row_val hrow2 hl1
          have hlm := List.mem_of_getElem? hl
          obtain ⟨al, cl, hlv, _⟩ := own_form (HOWN2.out l hlm)
          rw [← e2, hlv] at rc
          have hnl : l.n ≤ 5864062014634 := by rw [e3]; exact HSM.out l1 (List.mem_of_getElem? hl1)
          have HLV := Lib.hid hlv
          have HL := Lib.hid hl
          have hki : (t : Int) < (i : Int) := by omega
          have hgs := GrowSt.start (hG.todo t l (Nat.le_refl _) hl)
          rw [hlv] at hgs
          have HGS := Lib.hid hgs
          clear hG hvs hdone hl hl1 hrow2 hlv hgs hlm e2 e3
          go_upto_region 14 with (fail)
          obtain ⟨wp, rfl⟩ : ∃ x : World, x = wr := ⟨_, rfl⟩
          go_loopw [7, 8] (fun v7 v8 wj => ∃ k : Nat, k ≤ 70 ∧ v8 = .int .i64 (k : Int) ∧ GrowSt wp base 37 2 l k (ksOf (elT t) k) v7 wj) (fun _ v _ => 70 - (intOf v).toNat)
          case atStart => exact ⟨0, by omega, rfl, HGS.out⟩
          case round =>
            obtain ⟨k, hk, rfl, hS⟩ := hrel
            obtain ⟨a5, c5, rfl, _⟩ := own_form hS.row
            have HS := Lib.hid hS
            have HBW : Hid (base ≤ wr.heap.size) := Nat.le_trans hb (Nat.le_trans HBUT.out.size (Nat.le_trans HG.out.but.size hS.but.size))
            clear hS
            by_cases hk70 : k < 70
            · have hkk : (k : Int) < 70 := by omega
              have B1 : Hid (l.n + k + 1 ≤ maxLen) := by show _ ≤ _; unfold maxLen; omega
              have B2 : Hid ((l.n + k + 1) * 24 ≤ 140737488355328) := by show _ ≤ _; omega
              have wD := wrapD (i := t) (by omega)
              have wE := wrapE (i := t) (k := k) (by omega) (by omega)
              go_wp2_with (at_builtin; go_loud (refine wpList_append_one _ rfl _ _ 22 rfl base 37 i0 (.agg #[.int .i64 0, .string ⟨#[]⟩]) 2 24 Try.underlying22 hi hz0 hz1 hz2 rfl (by decide) a5 (l.n + k) c5 (l.xs ++ ksOf (elT t) k) rfl (HS.out.row.alloc _) ⟨wr.heap.size, 0, none⟩ 1 (elT t k) rfl rfl (news2 _ _ _ _) (elT_one t k) B1.out B2.out (size_alloc_le HBW.out) ?_); intro g7 p7 w7 r1 r2 r3 r4)
              have hst := GrowSt.step HS.out r1 r2 r3 r4
              rw [← ksOf_succ] at hst
              have HST := Lib.hid hst
              clear hst r1 r2 r3 r4
              go_roundw
              case rel => exact ⟨k + 1, by omega, by go_num, HST.out⟩
              case measure => simp [intOf]; omega
            · obtain rfl : k = 70 := by omega
              have hlong : wr.ownsRow wo.heap.size 22 1 (.slice a3 t c3) t vs := HVS.out.kept HS.out.but (own_apart HVS.out (HG.out.todo t l (Nat.le_refl _) HL.out) (by decide))
              have HLG := Lib.hid hlong
              have HSZ : Hid (wo.heap.size ≤ wr.heap.size) := Nat.le_trans HG.out.but.size HS.out.but.size
              have B1 : Hid (t + 1 ≤ maxLen) := by show _ ≤ _; unfold maxLen; omega
              have B2 : Hid ((t + 1) * 24 ≤ 140737488355328) := by show _ ≤ _; omega
              clear hlong
              go_wp2_with (at_builtin; go_loud (refine wpList_append_one _ rfl _ _ 69 rfl wo.heap.size 22 j0 (.slice none 0 0) 1 24 Try.underlying69 jj jj0 jj1 jj2 rfl (by decide) a3 t c3 vs rfl (HLG.out.alloc _) ⟨wr.heap.size, 0, none⟩ 1 [.slice a5 (l.n + 70) c5] rfl rfl (news1 _ _ _) (fun u hu => by cases List.mem_singleton.1 hu; rfl) B1.out B2.out (size_alloc_le HSZ.out) ?_); intro g7 p7 w7 r1 r2 r3 r4)
              have hgo := Gone.next (by decide) (by decide) HAP2.out HLT2.out HG.out HL.out HS.out rfl HVS.out HDN.out r1 r2
              have HGO := Lib.hid hgo
              clear hgo r1 r2 r3 r4
              go_roundw
              case rel => exact ⟨t + 1, by omega, by go_num, HGO.out⟩
              case measure => simp [intOf]; omega
        · obtain rfl : t = i := by omega
          have HROW3 := Lib.hid hrow2
          have hge : ¬ (t : Int) < (t : Int) := by omega
          clear hG hvs hdone hrow2
          go_upto_region 19 with (fail)
          obtain ⟨wp, rfl⟩ : ∃ x : World, x = wr := ⟨_, rfl⟩
          clear hge
          go_loopw [9] (fun v wj => ∃ s : Nat, s ≤ t ∧ v = .int .i64 (s : Int) ∧ wj = wp) (fun v _ => t - (intOf v).toNat)
          case atStart => exact ⟨0, by omega, rfl, rfl⟩
          case round =>
            obtain ⟨s, hst, rfl, rfl⟩ := hrel
            by_cases hlt : s < t
            · obtain ⟨l1, hl1⟩ : ∃ l, ls[s]? = some l := ⟨_, List.getElem?_eq_getElem (by rw [HLEN.out]; exact hlt)⟩
              obtain ⟨l, hl, e2, e3⟩ := vn_at HVN.out hl1
              obtain ⟨gr, rfl, rc⟩ := row_val HROW3.out hl1
              have hlm := List.mem_of_getElem? hl
              obtain ⟨al, cl, hlv, _⟩ := own_form (HOWN2.out l hlm)
              rw [← e2, hlv] at rc
              have hnl : l.n ≤ 5864062014634 := by rw [e3]; exact HSM.out l1 (List.mem_of_getElem? hl1)
              obtain ⟨gg, v, rfl, hv, vc⟩ := row_get HVS.out hlt
              obtain ⟨⟨gv, cv, rfl⟩, hrv, _⟩ := HDN.out s l v hlt hl hv
              have HRV := Lib.hid hrv
              have RC := Lib.hid rc
              have VC := Lib.hid vc
              have hki : (s : Int) < (t : Int) := by omega
              have OLD : Hid (∀ k, k < l.n → ∃ g, al = some ⟨g, 0, none⟩ ∧ wr.cell? ⟨g, k * 2, none⟩ = some (mkT s k)) := fun k hk => by
                have hr := HOWN2.out l hlm
                rw [hlv] at hr
                obtain ⟨g, p, e, _⟩ := own_formS hr (by omega)
                cases e
                refine ⟨g, rfl, HG.out.old s l hlt hl g (k * 2) _ (by rw [hlv]; rfl) (HMARK.out s l hlt hl k hk)⟩
              have wG := wrapG hnl
              clear hl hl1 hv hrv hlm hlv rc vc e2 e3
              have rc := RC.out
              go_upto_region 23 with (fail)
              obtain ⟨wq, rfl⟩ : ∃ x : World, x = wr := ⟨_, rfl⟩
              go_loopw [11] (fun v wj => ∃ k : Nat, k ≤ l.n + 70 ∧ v = .int .i64 (k : Int) ∧ wj = wq) (fun v _ => l.n + 70 - (intOf v).toNat)
              case atStart => exact ⟨0, by omega, rfl, rfl⟩
              case round =>
                obtain ⟨k, hk, rfl, rfl⟩ := hrel
                by_cases hkn : k < l.n
                · obtain ⟨g, rfl, cc0⟩ := OLD.out k hkn
                  have cc : wr.cell? ⟨g, k * 2, none⟩ = some (.int .i64 (-1000 * (s : Int) - (k : Int) - 1)) := cc0
                  have rc := RC.out
                  have hk1 : (k : Int) < (l.n : Int) := by omega
                  have hk2 : ¬ (l.n : Int) ≤ (k : Int) := by omega
                  have hk3 : (k : Int) < (l.n : Int) + 70 := by omega
                  have wA := wrapA (i := s) (by omega)
                  have wB := wrapB (i := s) (k := k) (by omega) (by omega)
                  have wC := wrapC (i := s) (k := k) (by omega) (by omega)
                  clear cc0
                  go_wp2
                  go_roundw
                  case rel => exact ⟨k + 1, by omega, by go_num, trivial⟩
                  case measure => simp [intOf]; omega
                · by_cases hk70 : k < l.n + 70
                  · obtain ⟨q, rfl⟩ : ∃ q, k = l.n + q := ⟨k - l.n, by omega⟩
                    have vc := VC.out
                    have cc : wr.cell? ⟨gv, (l.n + q) * 2, none⟩ = some (.int .i64 (1000 * (s : Int) + (q : Int))) := grown_cell HRV.out (elT_len s) (by omega) (j := 0) (by omega) rfl
                    have hk1 : ¬ (l.n : Int) + (q : Int) < (l.n : Int) := by omega
                    have hk2 : (l.n : Int) ≤ (l.n : Int) + (q : Int) := by omega
                    have hk3 : (l.n : Int) + (q : Int) < (l.n : Int) + 70 := by omega
                    have hk4 : (0 : Int) ≤ (l.n : Int) + (q : Int) := by omega
                    have htn : ((l.n : Int) + (q : Int)).toNat = l.n + q := toNat_add _ _
                    have wD := wrapD (i := s) (by omega)
                    have wE := wrapE2 (i := s) (n := l.n) (q := q) (by omega) (by omega) (by omega)
                    have wF := wrapF (i := s) (n := l.n) (q := q) (by omega) (by omega)
                    go_wp2
                    go_roundw
                    case rel => exact ⟨l.n + q + 1, by omega, by go_num, trivial⟩
                    case measure => simp [intOf]; omega
                  · obtain rfl : k = l.n + 70 := by omega
                    have hge : ¬ (l.n : Int) + 70 < (l.n : Int) + 70 := by omega
                    go_wp2
                    go_roundw
                    case rel => exact ⟨s + 1, by omega, by go_num, trivial⟩
                    case measure => simp [intOf]; omega
            · obtain rfl : s = t := by omega
              have hge : ¬ (s : Int) < (s : Int) := by omega
              go_wp2
              go_returns
              exact ⟨rfl, HBUT.out.trans (HG.out.but.mono fun b _ hB => vn_blocks HVN.out b hB)⟩
end Go.Proofs.Ytcphjfggjjonpaa
