/- The walks of the law's grown, grown2. -/
import Derived.Test.YtcphjfggjjonpaaGrow
namespace Go.Proofs.Ytcphjfggjjonpaa
open Go.ChangeShapes Go.WideShapes Go.ChangeAt Go.RowKit
theorem info_sl : (Try.prog.info? 25).map (fun i => (i.zero, i.size, i.bytes)) = some (some (.slice none 0 0), 1, 24) := by kernel_rfl
/-- The literal that is put behind body i as number k. -/
def elL (i k : Nat) : List Value := [.int .i64 (1000 + (i : Int)), .string ⟨#[]⟩, .slice none 0 0, .int .i64 (k : Int), .int .i64 0, .string ⟨#[]⟩, .int .i64 0, .string ⟨#[]⟩]
theorem elL_len (i k : Nat) : (elL i k).length = 8 := rfl
theorem elL_one (i k : Nat) : ∀ u ∈ elL i k, u.oneCell' = true := by
  intro u hu
  simp [elL] at hu
  rcases hu with rfl | rfl | rfl | rfl | rfl | rfl | rfl | rfl <;> rfl
theorem row_val {w : World} {base n : Nat} {te : TypeId} {a : Option Addr} {c : Nat} {ls : List LRow} (h : w.ownsRow base te 1 (.slice a n c) n (ls.map (·.v))) {i : Nat} {l : LRow} (hl : ls[i]? = some l) : ∃ g, a = some ⟨g, 0, none⟩ ∧ w.cell? ⟨g, i, none⟩ = some l.v := by
  have hi := (List.getElem?_eq_some_iff.1 hl).1
  have hn := h.1
  rw [List.length_map, Nat.mul_one] at hn
  rcases h.2 with ⟨h1, h0⟩ | ⟨g, c', cur, hv, _⟩
  · omega
  · cases hv
    have := h.cells (g := g) rfl i l.v (by rw [List.getElem?_map, hl]; rfl)
    rw [Addr.add_lit, Nat.zero_add] at this
    exact ⟨g, rfl, this⟩
theorem row_get {w : World} {base n : Nat} {te : TypeId} {a : Option Addr} {c : Nat} {vs : List Value} (h : w.ownsRow base te 1 (.slice a n c) n vs) {i : Nat} (hi : i < n) : ∃ g v, a = some ⟨g, 0, none⟩ ∧ vs[i]? = some v ∧ w.cell? ⟨g, i, none⟩ = some v := by
  have hn := h.1
  rw [Nat.mul_one] at hn
  obtain ⟨v, hv⟩ : ∃ v, vs[i]? = some v := ⟨_, List.getElem?_eq_getElem (by omega)⟩
  rcases h.2 with ⟨h1, h0⟩ | ⟨g, c', cur, hv', _⟩
  · cases h1
    omega
  · cases hv'
    have := h.cells (g := g) rfl i v hv
    rw [Addr.add_lit, Nat.zero_add] at this
    exact ⟨g, v, rfl, hv, this⟩
theorem news8 (w : World) (u0 u1 u2 u3 u4 u5 u6 u7 : Value) (t : TypeId) : ∀ j x, [u0, u1, u2, u3, u4, u5, u6, u7][j]? = some x → (w.alloc (.cells #[u0, u1, u2, u3, u4, u5, u6, u7] t)).cell? ((⟨w.heap.size, 0, none⟩ : Addr).add j) = some x := by
  intro j x hx
  rw [Addr.add_lit, World.cell?_alloc_new, Nat.zero_add]
  simpa using hx
theorem news1 (w : World) (u : Value) (t : TypeId) : ∀ j x, [u][j]? = some x → (w.alloc (.cells #[u] t)).cell? ((⟨w.heap.size, 0, none⟩ : Addr).add j) = some x := by
  intro j x hx
  rw [Addr.add_lit, World.cell?_alloc_new, Nat.zero_add]
  simpa using hx
theorem wrap_add {n k : Nat} (hn : n ≤ 1353245080303) (hk : k < 10) : IntKind.i64.wrap ((n : Int) + (k : Int)) = (n : Int) + (k : Int) := by
  rw [IntKind.wrap_i64]
  omega
theorem toNat_add (n k : Nat) : ((n : Int) + (k : Int)).toNat = n + k := by omega
set_option maxRecDepth 100000 in
set_option maxHeartbeats 4000000 in
theorem c_grown (ls : List LRow) (a : Option Addr) (N cap base : Nat) (w : World) (hrow : w.ownsRow base 25 1 (.slice a N cap) N (ls.map (·.v))) (hown : ∀ l ∈ ls, w.ownsRow base 43 8 l.v l.n l.xs) (hsm : ∀ l ∈ ls, l.n ≤ 1353245080303) (hap : ls.Pairwise fun a b => a.v.ownBlock = none ∨ a.v.ownBlock ≠ b.v.ownBlock) (hN : N ≤ 1000000) (hb : base ≤ w.heap.size) :
    Calls Try.prog 32 #[.slice a N cap] w fun e w' => e = .returned (.bool true) ∧ ButS (Blocks ls) w w' := by
  have hlen : ls.length = N := by have := hrow.1; rw [List.length_map] at this; omega
  have hlt : ∀ l ∈ ls, ∀ b, l.v.ownBlock = some b → b < w.heap.size := fun l hl b e => ((hown l hl).lt b e).2
  have hout : ∀ b, (Value.slice a N cap).ownBlock = some b → ¬ Blocks ls b := by
    rintro b e ⟨l, hl, e2⟩
    rcases own_apart hrow (hown l hl) (by decide) with h | h
    · rw [h] at e; cases e
    · exact h (e.trans e2.symm)
  have HROW := Lib.hid hrow
  have HOWN := Lib.hid hown
  have HSM := Lib.hid hsm
  have HAP := Lib.hid hap
  have HLT := Lib.hid hlt
  have HOUT := Lib.hid hout
  have HLEN := Lib.hid hlen
  clear hrow hown hsm hap hlt hout hlen
  obtain ⟨i0, hi, hz0, hz1, hz2⟩ := info_parts info_lit
  obtain ⟨j0, jj, jj0, jj1, jj2⟩ := info_parts info_sl
  go_enter Try.func32, Try.ntmps32
  go_wp2
  go_loopw [3, 4] (fun v3 v4 wj => ∃ i : Nat, i ≤ N ∧ v4 = .int .i64 (i : Int) ∧ Gone w base 43 8 25 ls 10 (fun i => ksOf (elL i) 10) i v3 wj) (fun _ v _ => N - (intOf v).toNat)
  case atStart => exact ⟨0, by omega, rfl, Gone.start HOWN.out⟩
  case round =>
    obtain ⟨i, hiN, rfl, hG⟩ := hrel
    have hrow2 := hG.but.own HROW.out HOUT.out
    have HG := Lib.hid hG
    obtain ⟨vs, hvs, hdone⟩ := hG.done
    obtain ⟨a3, c3, rfl, _⟩ := own_form hvs
    have HVS := Lib.hid hvs
    have HDN := Lib.hid hdone
    by_cases hlt : i < N
    · obtain ⟨l, hl⟩ : ∃ l, ls[i]? = some l := ⟨_, List.getElem?_eq_getElem (by rw [HLEN.out]; exact hlt)⟩
      have hlm := List.mem_of_getElem? hl
      obtain ⟨gr, rfl, rc⟩ := row_val hrow2 hl
      obtain ⟨al, cl, hlv, _⟩ := own_form (HOWN.out l hlm)
      rw [hlv] at rc
      have HLV := Lib.hid hlv
      have HL := Lib.hid hl
      have hki : (i : Int) < (N : Int) := by omega
      have hgs := GrowSt.start (hG.todo i l (Nat.le_refl _) hl)
      rw [hlv] at hgs
      have HGS := Lib.hid hgs
      have hnl := HSM.out l hlm
      clear hG hvs hdone hl hrow2 hlv hgs hlm
      go_upto_region 7 with (fail)
      obtain ⟨wo, rfl⟩ : ∃ x : World, x = wr := ⟨_, rfl⟩
      go_loopw [5, 6] (fun v5 v6 wj => ∃ k : Nat, k ≤ 10 ∧ v6 = .int .i64 (k : Int) ∧ GrowSt wo base 43 8 l k (ksOf (elL i) k) v5 wj) (fun _ v _ => 10 - (intOf v).toNat)
      case atStart => exact ⟨0, by omega, rfl, HGS.out⟩
      case round =>
        obtain ⟨k, hk, rfl, hS⟩ := hrel
        obtain ⟨a5, c5, rfl, _⟩ := own_form hS.row
        have HS := Lib.hid hS
        have hbw : base ≤ wr.heap.size := Nat.le_trans hb (Nat.le_trans HG.out.but.size hS.but.size)
        have HBW := Lib.hid hbw
        clear hS hbw
        by_cases hk10 : k < 10
        · have hkk : (k : Int) < 10 := by omega
          have B1 : Hid (l.n + k + 1 ≤ maxLen) := by show _ ≤ _; unfold maxLen; omega
          have B2 : Hid ((l.n + k + 1) * 104 ≤ 140737488355328) := by show _ ≤ _; omega
          go_wp2_with (at_builtin; go_loud (refine wpList_append_one _ rfl _ _ 25 rfl base 43 i0 (.agg #[.int .i64 0, .string ⟨#[]⟩, .slice none 0 0, .int .i64 0, .int .i64 0, .string ⟨#[]⟩, .int .i64 0, .string ⟨#[]⟩]) 8 104 Try.underlying25 hi hz0 hz1 hz2 rfl (by decide) a5 (l.n + k) c5 (l.xs ++ ksOf (elL i) k) rfl (HS.out.row.alloc _) ⟨wr.heap.size, 0, none⟩ 1 (elL i k) rfl rfl (news8 _ _ _ _ _ _ _ _ _ _) (elL_one i k) B1.out B2.out (size_alloc_le HBW.out) ?_); intro g7 p7 w7 r1 r2 r3 r4)
          have hst := GrowSt.step HS.out r1 r2 r3 r4
          rw [← ksOf_succ] at hst
          have HST := Lib.hid hst
          clear hst r1 r2 r3 r4
          go_roundw
          case rel => exact ⟨k + 1, by omega, by go_num, HST.out⟩
          case measure => simp [intOf]; omega
        · obtain rfl : k = 10 := by omega
          have hlong : wr.ownsRow w.heap.size 25 1 (.slice a3 i c3) i vs := HVS.out.kept HS.out.but (own_apart HVS.out (HG.out.todo i l (Nat.le_refl _) HL.out) (by decide))
          have HLG := Lib.hid hlong
          have HSZ : Hid (w.heap.size ≤ wr.heap.size) := Nat.le_trans HG.out.but.size HS.out.but.size
          have B1 : Hid (i + 1 ≤ maxLen) := by show _ ≤ _; unfold maxLen; omega
          have B2 : Hid ((i + 1) * 24 ≤ 140737488355328) := by show _ ≤ _; omega
          clear hlong
          go_wp2_with (at_builtin; go_loud (refine wpList_append_one _ rfl _ _ 70 rfl w.heap.size 25 j0 (.slice none 0 0) 1 24 Try.underlying70 jj jj0 jj1 jj2 rfl (by decide) a3 i c3 vs rfl (HLG.out.alloc _) ⟨wr.heap.size, 0, none⟩ 1 [.slice a5 (l.n + 10) c5] rfl rfl (news1 _ _ _) (fun u hu => by cases List.mem_singleton.1 hu; rfl) B1.out B2.out (size_alloc_le HSZ.out) ?_); intro g7 p7 w7 r1 r2 r3 r4)
          have hgo := Gone.next (by decide) (by decide) HAP.out HLT.out HG.out HL.out HS.out rfl HVS.out HDN.out r1 r2
          have HGO := Lib.hid hgo
          clear hgo r1 r2 r3 r4
          go_roundw
          case rel => exact ⟨i + 1, by omega, by go_num, HGO.out⟩
          case measure => simp [intOf]; omega
    · obtain rfl : i = N := by omega
      have HROW2 := Lib.hid hrow2
      have hge : ¬ (i : Int) < (i : Int) := by omega
      clear hG hvs hdone hrow2
      go_upto_region 12 with (fail)
      obtain ⟨wo, rfl⟩ : ∃ x : World, x = wr := ⟨_, rfl⟩
      clear hge
      go_loopw [7] (fun v wj => ∃ t : Nat, t ≤ i ∧ v = .int .i64 (t : Int) ∧ Ext wo wj) (fun v _ => i - (intOf v).toNat)
      case atStart => exact ⟨0, by omega, rfl, Below.refl _ _⟩
      case round =>
        obtain ⟨t, ht, rfl, hE⟩ := hrel
        have HE := Lib.hid hE
        clear hE
        by_cases hti : t < i
        · obtain ⟨l, hl⟩ : ∃ l, ls[t]? = some l := ⟨_, List.getElem?_eq_getElem (by rw [HLEN.out]; exact hti)⟩
          have hlm := List.mem_of_getElem? hl
          obtain ⟨gr, rfl, rc⟩ := row_val HROW2.out hl
          obtain ⟨al, cl, hlv, _⟩ := own_form (HOWN.out l hlm)
          rw [hlv] at rc
          obtain ⟨gl, v, rfl, hv, vc⟩ := row_get HVS.out hti
          obtain ⟨⟨gv, cv, rfl⟩, hrv, _⟩ := HDN.out t l v hti hl hv
          have HRV := Lib.hid hrv
          have hnl := HSM.out l hlm
          have RC := Lib.hid rc
          have VC := Lib.hid vc
          clear hl hv hrv hlm hlv rc vc
          have htk : (t : Int) < (i : Int) := by omega
          go_upto_region 15 with (fail)
          go_loopw [8] (fun v wj => ∃ k : Nat, k ≤ 10 ∧ v = .int .i64 (k : Int) ∧ Ext wo wj) (fun v _ => 10 - (intOf v).toNat)
          case atStart => exact ⟨0, by omega, rfl, HE.out⟩
          case round =>
            obtain ⟨k, hk, rfl, hE2⟩ := hrel
            have HE2 := Lib.hid hE2
            by_cases hk10 : k < 10
            · have rc := keep hE2 RC.out
              have vc := keep hE2 VC.out
              have cc : ∀ j u, j < 8 → (elL t k)[j]? = some u → wr.cell? ⟨gv, (l.n + k) * 8 + j, none⟩ = some u := fun j u hj hu => keep hE2 (grown_cell HRV.out (elL_len t) hk10 hj hu)
              have c0 : wr.cell? ⟨gv, (l.n + k) * 8, none⟩ = some (.int .i64 (1000 + (t : Int))) := cc 0 _ (by omega) rfl
              have c1 := cc 1 _ (by omega) rfl
              have c2 := cc 2 _ (by omega) rfl
              have c3 := cc 3 _ (by omega) rfl
              have c4 := cc 4 _ (by omega) rfl
              have c5 := cc 5 _ (by omega) rfl
              have c6 := cc 6 _ (by omega) rfl
              have c7 := cc 7 _ (by omega) rfl
              have sr := World.block_lt_of_cell? wr ⟨gr, _, none⟩ rc
              have sl := World.block_lt_of_cell? wr ⟨gl, _, none⟩ vc
              have sv := World.block_lt_of_cell? wr ⟨gv, _, none⟩ c0
              have sr' : gr < wr.heap.size := sr
              have sl' : gl < wr.heap.size := sl
              have sv' : gv < wr.heap.size := sv
              have hkk : (k : Int) < 10 := by omega
              have hix : (l.n : Int) + (k : Int) < ((l.n + 10 : Nat) : Int) := by omega
              have hix2 : (l.n : Int) + (k : Int) < (l.n : Int) + 10 := by omega
              have hix0 : (0 : Int) ≤ (l.n : Int) + (k : Int) := by omega
              have hwr : IntKind.i64.wrap ((l.n : Int) + (k : Int)) = (l.n : Int) + (k : Int) := wrap_add hnl hk10
              have htn : ((l.n : Int) + (k : Int)).toNat = l.n + k := toNat_add _ _
              clear cc sr sl sv hE2
              go_upto_region 17 with (fail)
              go_region_held3 (fun w' => ∀ b o, b < wr.heap.size → w'.cell? ⟨b, o, none⟩ = wr.cell? ⟨b, o, none⟩)
                ((intro bb oo hbb; repeat (first | (with_reducible rfl) | (with_reducible rw [World.cell?_drew]) | ((with_reducible refine (World.cell?_alloc_lt _ _ _ ?_).trans ?_); · (show bb < _; (first | omega | (simp; done) | (simp; omega)))) | ((with_reducible refine (World.cell?_setCell_far _ _ _ _ ?_).trans ?_); · (show _ ≠ bb; (first | omega | (simp; done) | (simp; omega)))))))
                (fail)
              all_goals
                go_wp2
                refine ⟨⟨k + 1, by omega, by go_num, ext_drew (ext_alloc HE2.out _)⟩, ?_⟩
                simp [intOf]
                omega
            · obtain rfl : k = 10 := by omega
              go_wp2
              go_roundw
              case rel => exact ⟨t + 1, by omega, by go_num, HE2.out⟩
              case measure => simp [intOf]; omega
        · obtain rfl : t = i := by omega
          have hge : ¬ (t : Int) < (t : Int) := by omega
          go_wp2
          go_returns
          exact ⟨rfl, HG.out.but.ext HE.out⟩
/-- The rule that is put behind. -/
def elR (s : ByteArray) (_ : Nat) : List Value := [.string s, .slice none 0 0, .slice none 0 0]
theorem elR_len (s : ByteArray) (k : Nat) : (elR s k).length = 3 := rfl
theorem elR_one (s : ByteArray) (k : Nat) : ∀ u ∈ elR s k, u.oneCell' = true := by
  intro u hu
  simp [elR] at hu
  rcases hu with rfl | rfl <;> rfl
theorem GrowSt.far {W w : World} {base : Nat} {e : TypeId} {size : Nat} {l : LRow} {k : Nat} {ks : List Value} {v : Value} (h : GrowSt W base e size l k ks v w) {b o : Nat} {u : Value} (hb : l.v.ownBlock ≠ some b) (hc : W.cell? ⟨b, o, none⟩ = some u) : w.cell? ⟨b, o, none⟩ = some u := by
  rw [← hc]
  exact World.cell?_of_block (h.but.block b (World.block_lt_of_cell? W ⟨b, o, none⟩ hc) (fun e => hb e.symm))
set_option maxRecDepth 100000 in
set_option maxHeartbeats 4000000 in
theorem c_grown2 (xs ys : List Value) (a : Option Addr) (n c : Nat) (a' : Option Addr) (n' c' : Nat) (base : Nat) (w : World) (h1 : w.ownsRow base 27 3 (.slice a n c) n xs) (h2 : w.ownsRow base 27 3 (.slice a' n' c') n' ys) (hap : (Value.slice a n c).ownBlock = none ∨ (Value.slice a n c).ownBlock ≠ (Value.slice a' n' c').ownBlock) (hn : n ≤ 1000000) (hn' : n' ≤ 1000000) (hb : base ≤ w.heap.size) :
    Calls Try.prog 33 #[.agg #[.slice a n c], .agg #[.slice a' n' c']] w fun e w' => e = .returned (.bool true) ∧ ButS (fun b => (Value.slice a n c).ownBlock = some b ∨ (Value.slice a' n' c').ownBlock = some b) w w' := by
  have hl1 : ∀ b, (Value.slice a n c).ownBlock = some b → b < w.heap.size := fun b e => (h1.lt b e).2
  have hl2 : ∀ b, (Value.slice a' n' c').ownBlock = some b → b < w.heap.size := fun b e => (h2.lt b e).2
  have H1 := Lib.hid h1
  have H2 := Lib.hid h2
  have HL1 := Lib.hid hl1
  have HL2 := Lib.hid hl2
  have HAP := Lib.hid hap
  clear h1 h2 hl1 hl2 hap
  obtain ⟨j0, jj, jj0, jj1, jj2⟩ := info_parts info_rule
  go_enter Try.func33, Try.ntmps33
  go_upto_region 1 with (fail)
  refine wp_gen (fun W hW => ?_)
  have hb0 : Ext w W := by rw [hW]; go_grown
  have x0 : W.cell? ⟨w.heap.size, 0, none⟩ = some (.slice a n c) := by rw [hW]; go_simp
  have y0 : W.cell? ⟨w.heap.size + 1, 0, none⟩ = some (.slice a' n' c') := by rw [hW]; go_simp
  have hsz : w.heap.size + 1 < W.heap.size := World.block_lt_of_cell? W ⟨w.heap.size + 1, 0, none⟩ y0
  clear hW
  go_quiet (fail)
  go_wp2
  refine wp_gen (fun W1 hW1 => ?_)
  have e1 : Ext W W1 := by rw [hW1]; first | exact ext_drew (Below.refl _ _) | exact Below.refl _ _ | exact ext_drewN (Below.refl _ _) _
  have x1 := keep e1 x0
  have y1 := keep e1 y0
  have E1 := Lib.hid (ext_trans hb0 e1)
  have HSZ1 : Hid (w.heap.size + 1 < W1.heap.size) := Nat.lt_of_lt_of_le hsz e1.size
  have X1 := Lib.hid x1
  have Y1 := Lib.hid y1
  have R1 := Lib.hid (up_ext H1.out E1.out)
  have R2 := Lib.hid (up_ext H2.out E1.out)
  have HB1 : Hid (base ≤ W1.heap.size) := Nat.le_trans hb E1.out.size
  clear hW1 e1 x0 y0 hb0 hsz
  go_loopw [5, 7] (fun v5 v7 wj => ∃ k : Nat, k ≤ 10 ∧ v7 = .int .i64 (k : Int) ∧ GrowSt W1 base 27 3 ⟨.slice a n c, n, xs⟩ k (ksOf (elR ⟨#[111, 110, 101]⟩) k) v5 wj) (fun _ v _ => 10 - (intOf v).toNat)
  case atStart => exact ⟨0, by omega, rfl, GrowSt.start R1.out⟩
  case round =>
    obtain ⟨k, hk, rfl, hS⟩ := hrel
    obtain ⟨a5, c5, rfl, _⟩ := own_form hS.row
    have HS := Lib.hid hS
    have HBW : Hid (base ≤ wr.heap.size) := Nat.le_trans HB1.out hS.but.size
    clear hS
    by_cases hk10 : k < 10
    · have hkk : (k : Int) < 10 := by omega
      have B1 : Hid (n + k + 1 ≤ maxLen) := by show _ ≤ _; unfold maxLen; omega
      have B2 : Hid ((n + k + 1) * 64 ≤ 140737488355328) := by show _ ≤ _; omega
      go_wp2_with (at_builtin; go_loud (refine wpList_append_one _ rfl _ _ 55 rfl base 27 j0 (.agg #[.string ⟨#[]⟩, .slice none 0 0, .slice none 0 0]) 3 64 Try.underlying55 jj jj0 jj1 jj2 rfl (by decide) a5 (n + k) c5 (xs ++ ksOf (elR ⟨#[111, 110, 101]⟩) k) rfl (HS.out.row.alloc _) ⟨wr.heap.size, 0, none⟩ 1 (elR ⟨#[111, 110, 101]⟩ k) rfl rfl (news_three _ _ _ _ _) (elR_one _ k) B1.out B2.out (size_alloc_le HBW.out) ?_); intro g7 p7 w7 r1 r2 r3 r4)
      have hst := GrowSt.step HS.out r1 r2 r3 r4
      rw [← ksOf_succ] at hst
      have HST := Lib.hid hst
      clear hst r1 r2 r3 r4
      go_roundw
      case rel => exact ⟨k + 1, by omega, by go_num, HST.out⟩
      case measure => simp [intOf]; omega
    · obtain rfl : k = 10 := by omega
      have hne : ∀ b, (Value.slice a n c).ownBlock = some b → (Value.slice a' n' c').ownBlock ≠ some b := fun b e e2 => by
        rcases HAP.out with h | h
        · rw [h] at e; cases e
        · exact h (e.trans e2.symm)
      have hR2 : wr.ownsRow base 27 3 (.slice a' n' c') n' ys := by
        refine R2.out.kept HS.out.but ?_
        cases hx : (Value.slice a' n' c').ownBlock with
        | none => exact .inl rfl
        | some b => exact .inr fun e => hne b e.symm hx
      have R2B := Lib.hid hR2
      have x2 : wr.cell? ⟨w.heap.size, 0, none⟩ = some (.slice a n c) := HS.out.far (fun e => by have := HL1.out _ e; omega) X1.out
      have y2 : wr.cell? ⟨w.heap.size + 1, 0, none⟩ = some (.slice a' n' c') := HS.out.far (fun e => by have := HL1.out _ e; omega) Y1.out
      have X2 := Lib.hid x2
      have Y2 := Lib.hid y2
      have HNE := Lib.hid hne
      clear hR2 hne x2 y2
      go_upto_region 7 with (fail)
      obtain ⟨wo, rfl⟩ : ∃ x : World, x = wr := ⟨_, rfl⟩
      go_loopw [6, 8] (fun v6 v8 wj => ∃ k : Nat, k ≤ 10 ∧ v8 = .int .i64 (k : Int) ∧ GrowSt wo base 27 3 ⟨.slice a' n' c', n', ys⟩ k (ksOf (elR ⟨#[116, 119, 111]⟩) k) v6 wj) (fun _ v _ => 10 - (intOf v).toNat)
      case atStart => exact ⟨0, by omega, rfl, GrowSt.start R2B.out⟩
      case round =>
        obtain ⟨k, hk, rfl, hS⟩ := hrel
        obtain ⟨a6, c6, rfl, _⟩ := own_form hS.row
        have HS2 := Lib.hid hS
        have HBW2 : Hid (base ≤ wr.heap.size) := Nat.le_trans HBW.out hS.but.size
        clear hS
        by_cases hk10 : k < 10
        · have hkk : (k : Int) < 10 := by omega
          have B1 : Hid (n' + k + 1 ≤ maxLen) := by show _ ≤ _; unfold maxLen; omega
          have B2 : Hid ((n' + k + 1) * 64 ≤ 140737488355328) := by show _ ≤ _; omega
          go_wp2_with (at_builtin; go_loud (refine wpList_append_one _ rfl _ _ 55 rfl base 27 j0 (.agg #[.string ⟨#[]⟩, .slice none 0 0, .slice none 0 0]) 3 64 Try.underlying55 jj jj0 jj1 jj2 rfl (by decide) a6 (n' + k) c6 (ys ++ ksOf (elR ⟨#[116, 119, 111]⟩) k) rfl (HS2.out.row.alloc _) ⟨wr.heap.size, 0, none⟩ 1 (elR ⟨#[116, 119, 111]⟩ k) rfl rfl (news_three _ _ _ _ _) (elR_one _ k) B1.out B2.out (size_alloc_le HBW2.out) ?_); intro g7 p7 w7 r1 r2 r3 r4)
          have hst := GrowSt.step HS2.out r1 r2 r3 r4
          rw [← ksOf_succ] at hst
          have HST := Lib.hid hst
          clear hst r1 r2 r3 r4
          go_roundw
          case rel => exact ⟨k + 1, by omega, by go_num, HST.out⟩
          case measure => simp [intOf]; omega
        · obtain rfl : k = 10 := by omega
          have hX : wr.ownsRow base 27 3 (.slice a5 (n + 10) c5) (n + 10) (xs ++ ksOf (elR ⟨#[111, 110, 101]⟩) 10) := by
            refine HS.out.row.kept HS2.out.but ?_
            cases hx : (Value.slice a5 (n + 10) c5).ownBlock with
            | none => exact .inl rfl
            | some b =>
              refine .inr fun e => ?_
              rcases HS.out.loc with h | h
              · exact HNE.out b (h.symm.trans hx) e.symm
              · have h5 := h b hx
                have h6 := HL2.out b e.symm
                have h7 := HSZ1.out
                omega
          obtain ⟨gx, px, ex, _⟩ := own_formS hX (by omega)
          cases ex
          obtain ⟨gy, py, ey, _⟩ := own_formS HS2.out.row (by show 0 < n' + 10; omega)
          cases ey
          have HX := Lib.hid hX
          have HY := Lib.hid HS2.out.row
          have x3 : wr.cell? ⟨w.heap.size, 0, none⟩ = some (.slice a n c) := HS2.out.far (fun e => by have := HL2.out _ e; omega) X2.out
          have y3 : wr.cell? ⟨w.heap.size + 1, 0, none⟩ = some (.slice a' n' c') := HS2.out.far (fun e => by have := HL2.out _ e; omega) Y2.out
          have X3 := Lib.hid x3
          have Y3 := Lib.hid y3
          have BUT : Hid (ButS (fun b => (Value.slice a n c).ownBlock = some b ∨ (Value.slice a' n' c').ownBlock = some b) w wr) :=
            (((ButS.refl _ w).ext E1.out).grown HS.out.but (fun b e => .inl (.inl e))).grown HS2.out.but (fun b e => .inl (.inr e))
          clear hX x3 y3
          go_upto_region 11 with (fail)
          obtain ⟨wp, rfl⟩ : ∃ x : World, x = wr := ⟨_, rfl⟩
          go_loopw [9] (fun v wj => ∃ k : Nat, k ≤ 10 ∧ v = .int .i64 (k : Int) ∧ wj = wp) (fun v _ => 10 - (intOf v).toNat)
          case atStart => exact ⟨0, by omega, rfl, rfl⟩
          case round =>
            obtain ⟨k, hk, rfl, rfl⟩ := hrel
            by_cases hk10 : k < 10
            · have hkk : (k : Int) < 10 := by omega
              have x4 := X3.out
              have y4 := Y3.out
              have cx : wr.cell? ⟨gx, (n + k) * 3, none⟩ = some (.string ⟨#[111, 110, 101]⟩) := grown_cell HX.out (elR_len _) hk10 (j := 0) (by omega) rfl
              have cy : wr.cell? ⟨gy, (n' + k) * 3, none⟩ = some (.string ⟨#[116, 119, 111]⟩) := grown_cell HY.out (elR_len _) hk10 (j := 0) (by omega) rfl
              have hix2 : (n : Int) + (k : Int) < (n : Int) + 10 := by omega
              have hix0 : (0 : Int) ≤ (n : Int) + (k : Int) := by omega
              have hiy2 : (n' : Int) + (k : Int) < (n' : Int) + 10 := by omega
              have hiy0 : (0 : Int) ≤ (n' : Int) + (k : Int) := by omega
              have hwr : IntKind.i64.wrap ((n : Int) + (k : Int)) = (n : Int) + (k : Int) := wrap_add (by omega) hk10
              have hwr' : IntKind.i64.wrap ((n' : Int) + (k : Int)) = (n' : Int) + (k : Int) := wrap_add (by omega) hk10
              have htn : ((n : Int) + (k : Int)).toNat = n + k := toNat_add _ _
              have htn' : ((n' : Int) + (k : Int)).toNat = n' + k := toNat_add _ _
              go_wp2
              go_roundw
              case rel => exact ⟨k + 1, by omega, by go_num, trivial⟩
              case measure => simp [intOf]; omega
            · obtain rfl : k = 10 := by omega
              go_wp2
              go_returns
              exact ⟨rfl, BUT.out⟩
end Go.Proofs.Ytcphjfggjjonpaa
