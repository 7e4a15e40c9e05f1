/- The walk of the law's covers. -/
import Derived.Test.YthjpfplebbnbpaaCase
namespace Go.Proofs.Ythjpfplebbnbpaa
open Go.ChangeShapes Go.WideShapes Go.ChangeAt Go.RowKit
def memB (l : List (List ByteArray)) (z : List ByteArray) : Bool := l.any fun y => decide (y = z)
theorem memB_iff (l : List (List ByteArray)) (z : List ByteArray) : memB l z = true ↔ z ∈ l := by simp [memB]
/-- Which ways have been met by the first i rows; those ahead of k by row i too. -/
def usedM (ways : List (List ByteArray)) (all : List (List ByteArray)) (os : List Int) (i k : Nat) : List Bool := ways.mapIdx fun j z => memB ((all.take (if j < k then i + 1 else i)).map (projM os)) z
theorem usedM_len (ways all : List (List ByteArray)) (os : List Int) (i k : Nat) : (usedM ways all os i k).length = ways.length := by simp [usedM]
theorem usedM_at {ways all : List (List ByteArray)} {os : List Int} {i k j : Nat} {z : List ByteArray} (h : ways[j]? = some z) : (usedM ways all os i k)[j]? = some (memB ((all.take (if j < k then i + 1 else i)).map (projM os)) z) := by
  unfold usedM
  rw [List.getElem?_mapIdx, h]
  rfl
theorem usedM_row (ways all : List (List ByteArray)) (os : List Int) (i : Nat) : usedM ways all os i ways.length = usedM ways all os (i + 1) 0 := by
  apply List.ext_getElem?
  intro j
  rcases Nat.lt_or_ge j ways.length with h | h
  · have hz : ways[j]? = some ways[j] := List.getElem?_eq_getElem h
    rw [usedM_at hz, usedM_at hz, if_pos h, if_neg (Nat.not_lt_zero _)]
  · rw [List.getElem?_eq_none (by rw [usedM_len]; exact h), List.getElem?_eq_none (by rw [usedM_len]; exact h)]
/-- Way k is the row's: it is marked. -/
theorem usedM_hit {ways all : List (List ByteArray)} {os : List Int} {i k : Nat} {r : List ByteArray} (hr : all[i]? = some r) (hk : ways[k]? = some (projM os r)) : (usedM ways all os i k).set k true = usedM ways all os i (k + 1) := by
  have hkl := (List.getElem?_eq_some_iff.1 hk).1
  apply List.ext_getElem?
  intro j
  by_cases hj : k = j
  · subst hj
    rw [List.getElem?_set_self (by rw [usedM_len]; exact hkl), usedM_at hk, if_pos (Nat.lt_succ_self k)]
    have : projM os r ∈ (all.take (i + 1)).map (projM os) := List.mem_map.2 ⟨r, by rw [take_at hr]; simp, rfl⟩
    rw [(memB_iff _ _).2 this]
  · rw [List.getElem?_set_ne hj]
    rcases Nat.lt_or_ge j ways.length with h | h
    · have hz : ways[j]? = some ways[j] := List.getElem?_eq_getElem h
      rw [usedM_at hz, usedM_at hz]
      by_cases h3 : j < k
      · rw [if_pos h3, if_pos (by omega)]
      · rw [if_neg h3, if_neg (by omega)]
    · rw [List.getElem?_eq_none (by rw [usedM_len]; exact h), List.getElem?_eq_none (by rw [usedM_len]; exact h)]
theorem usedM_miss {ways all : List (List ByteArray)} {os : List Int} {i k : Nat} {r z : List ByteArray} (hr : all[i]? = some r) (hk : ways[k]? = some z) (hne : z ≠ projM os r) : usedM ways all os i (k + 1) = usedM ways all os i k := by
  apply List.ext_getElem?
  intro j
  rcases Nat.lt_or_ge j ways.length with h | h
  · have hz : ways[j]? = some ways[j] := List.getElem?_eq_getElem h
    rw [usedM_at hz, usedM_at hz]
    by_cases hj : j = k
    · subst hj
      have e : ways[j] = z := by rw [hz] at hk; exact Option.some.inj hk
      rw [if_pos (Nat.lt_succ_self j), if_neg (Nat.lt_irrefl _), take_at hr, List.map_append, e]
      congr 1
      rw [Bool.eq_iff_iff, memB_iff, memB_iff, List.mem_append, List.map_cons, List.map_nil, List.mem_singleton]
      exact ⟨fun h => h.resolve_right hne, .inl⟩
    · by_cases h3 : j < k
      · rw [if_pos h3, if_pos (by omega)]
      · rw [if_neg h3, if_neg (by omega)]
  · rw [List.getElem?_eq_none (by rw [usedM_len]; exact h), List.getElem?_eq_none (by rw [usedM_len]; exact h)]
theorem usedM_full {ways all : List (List ByteArray)} {os : List Int} (h : ∀ z ∈ ways, ∃ r ∈ all, projM os r = z) {k : Nat} (hk : k < ways.length) : (usedM ways all os all.length 0)[k]? = some true := by
  have hz : ways[k]? = some ways[k] := List.getElem?_eq_getElem hk
  rw [usedM_at hz, if_neg (Nat.not_lt_zero _), List.take_length]
  obtain ⟨r, h1, h2⟩ := h _ (List.getElem_mem hk)
  rw [(memB_iff _ _).2 (List.mem_map.2 ⟨r, h1, h2⟩)]
theorem info_bool : (Try.prog.info? 4).map (fun i => (i.zero, i.size, i.bytes)) = some (some (.bool false), 1, 1) := by kernel_rfl
theorem made_bool (ways all : List (List ByteArray)) (os : List Int) : (madeCells (Value.bool false).cells (ways.length * 1)).toList = (usedM ways all os 0 0).map Value.bool := by
  apply List.ext_getElem
  · simp [madeCells, usedM]
  · intro i h1 h2
    have h3 : i < ways.length := by simpa [usedM] using h2
    have hz : ways[i]? = some ways[i] := List.getElem?_eq_getElem h3
    have e := usedM_at (all := all) (os := os) (i := 0) (k := 0) hz
    obtain ⟨_, e2⟩ := List.getElem?_eq_some_iff.1 e
    rw [List.getElem_map, e2]
    simp [madeCells, Value.cells, Nat.mod_one, memB]
/-- Rows as they can be read. -/
theorem RowsAt.items {lo : Nat} {w : World} {a : Option Addr} {n c : Nat} {us : List Value} {rs : List (List ByteArray)} (hown : w.ownsRow lo 33 1 (.slice a n c) n us) (h : RowsAt lo w us rs) (hn : n = rs.length) : ItemsAt w a n rs := by
  refine ⟨(own_len hown).1, hn.symm, fun i r hr => ?_⟩
  have hi := (List.getElem?_eq_some_iff.1 hr).1
  obtain ⟨v, hv⟩ : ∃ v, us[i]? = some v := ⟨_, List.getElem?_eq_getElem (by rw [h.1]; exact hi)⟩
  have ho := h.2 i r v hr hv
  obtain ⟨a7, c7, rfl, _⟩ := own_form ho
  rcases hown.2 with ⟨h1, h0⟩ | ⟨g, c', cur, e, _⟩
  · omega
  · cases e
    have := hown.cells (g := g) rfl i _ hv
    rw [Addr.add_lit] at this
    exact ⟨g, 0, rfl, a7, r.length, c7, by simpa using this, own_strs ho (own_len ho).1⟩
set_option maxRecDepth 100000 in
set_option maxHeartbeats 4000000 in
theorem c_covers (x : CaseV) (rows : List (List ByteArray)) (os : List Int) (ar : Nat) (am : Option Addr) (nm cm : Nat) (ways : List (List ByteArray)) (w : World) (h : CaseAt w x rows os) (hn : x.rn ≤ 400) (hare : x.ar = (ar : Int)) (har : ar ≤ 64) (hok : orderOk ar os) (hm : ItemsAt w am nm ways) (hnm : nm ≤ 400) (hmem : ∀ z, z ∈ ways ↔ ∃ r ∈ rowsM ar rows, projM os r = z) :
    Calls Try.prog 21 #[x.v, .slice am nm cm] w fun e w' => e = .returned (.bool true) ∧ Ext w w' := by
  have HC := Lib.hid h
  have HM := Lib.hid hm
  have HOK := Lib.hid hok
  have HMEM := Lib.hid hmem
  have hol : os.length = x.on := h.order.2.1
  have hwl : ways.length = nm := hm.2.1
  have HWL := Lib.hid hwl
  have hrl : rows.length = x.rn := h.rows.1
  obtain ⟨fr, fl, fc⟩ := rowsM_facts ar rows
  have FL := Lib.hid fl
  obtain ⟨all, hall⟩ : ∃ all, rowsM ar rows = all := ⟨_, rfl⟩
  have hallm : all.length ≤ 400 := by rw [← hall]; omega
  have KP : Hid (∀ w1, Ext w w1 → Calls Try.prog 19 #[x.v] w1 fun e w' => Ext w1 w' ∧ ∃ a c, e = .returned (.slice a all.length c) ∧ ItemsAt w' a all.length all) := fun w1 h1 => (c_kept x rows os w1 (HC.out.keep h1) hn).mono fun e w' ⟨r1, a, n, c, r2, r3⟩ => by
    rcases r3 with ⟨s1, _⟩ | ⟨ar', s1, s2, s3, us, s4, s5⟩
    · exact absurd (show (0 : Int) ≤ x.ar ∧ x.ar ≤ 64 by omega) s1
    · obtain rfl : ar' = ar := by omega
      rw [hall] at s3 s5
      subst s3
      exact ⟨r1, a, c, r2, s5.items s4 rfl⟩
  have ho64 := hok.len
  have HO := Lib.hid h.order
  obtain ⟨j0, hj, yz0, yz1, yz2⟩ := info_parts info_bool
  have MK : Hid (∀ w2 : World, ∃ wm, (Instr.makeSlice 77 (.int .i64 (nm : Int)) (.int .i64 (nm : Int))).run Try.prog w2 = .ok (.slice (some ⟨w2.heap.size, 0, none⟩) nm nm) wm ∧ wm.ownsRow w2.heap.size 4 1 (.slice (some ⟨w2.heap.size, 0, none⟩) nm nm) nm (madeCells (Value.bool false).cells (nm * 1)).toList ∧ w2.grownBy wm none) := fun w2 => run_make_full (P := Try.prog) w2 w2.heap.size 77 4 j0 (.bool false) 1 Try.underlying77 hj yz0 yz1 .i64 .i64 nm (by rw [yz2]; omega) (by unfold maxLen; omega) (Nat.le_refl _)
  rw [hall] at FL HMEM
  obtain ⟨ar0, ra, rn, rc, oa, on, oc⟩ := x
  unfold CaseV.v at KP ⊢
  dsimp only at KP hol HO hn ⊢
  clear h hm hok hmem hwl hrl fr fl fc hall hare
  go_enter Try.func21, Try.ntmps21
  go_upto_region 2 with (go_at_call 19; (with_reducible refine (KP.out _ (ext_alloc (Below.refl _ _) _)).mono ?_); rintro e w1 ⟨E1, aa, ca, rfl, hit⟩)
  refine wp_gen (fun W1 hW1 => ?_)
  have e1 : Ext w W1 := by rw [hW1]; exact ext_trans (ext_alloc (Below.refl _ _) _) E1
  have x2 : W1.cell? ⟨w.heap.size, 2, none⟩ = some (.slice oa on oc) := by rw [hW1]; exact keep E1 (by go_simp)
  have IT : Hid (ItemsAt W1 aa all.length all) := by show ItemsAt _ _ _ _; rw [hW1]; exact hit
  obtain ⟨wm, hmk, om, gm⟩ := MK.out W1
  have em : Ext W1 wm := ⟨gm.os, gm.tape, gm.output, gm.size, fun i hi => gm.block i hi (by simp)⟩
  have EM := Lib.hid em
  have E1h := Lib.hid e1
  have U0 : Hid (wm.ownsRow W1.heap.size 4 1 (.slice (some ⟨W1.heap.size, 0, none⟩) nm nm) nm ((usedM ways all os 0 0).map Value.bool)) := by
    show World.ownsRow _ _ _ _ _ _ _
    rw [← made_bool ways all os, HWL.out]
    exact om
  clear hW1 hit MK KP om gm e1
  go_wp2
  clear hmk
  go_loopw [7] (fun v7 wj => ∃ i : Nat, i ≤ all.length ∧ v7 = .int .i64 (i : Int) ∧ Ext W1 wj ∧ wj.ownsRow W1.heap.size 4 1 (.slice (some ⟨W1.heap.size, 0, none⟩) nm nm) nm ((usedM ways all os i 0).map Value.bool)) (fun v7 _ => all.length - (intOf v7).toNat)
  case atStart => exact ⟨0, Nat.zero_le _, rfl, EM.out, U0.out⟩
  case round =>
    obtain ⟨i, hi, rfl, hex, hown⟩ := hrel
    have EX := Lib.hid hex
    have OW := Lib.hid hown
    have HEW : Hid (Ext w wr) := ext_trans E1h.out hex
    obtain ⟨wo, rfl⟩ : ∃ wo : World, wo = wr := ⟨_, rfl⟩
    by_cases hlt : i < all.length
    · have hlti : (i : Int) < (all.length : Int) := by omega
      obtain ⟨r, b1, o1, hx, rfl, a5, n5, c5, g1, g2⟩ := (IT.out.keep hex).2.at hlt
      have g1 : wo.cell? ⟨b1, o1 + i, none⟩ = some (.slice a5 n5 c5) := by simpa using g1
      have HX := Lib.hid hx
      have G2 := Lib.hid g2
      have hrl := FL.out r (List.mem_of_getElem? hx)
      have hr5 : r.length = n5 := g2.2.1
      have x3 := keep hex x2
      clear hx g2 hex hown
      go_wp2
      go_loopw [8, 9] (fun v8 v9 wj => ∃ k : Nat, k ≤ on ∧ v9 = .int .i64 (k : Int) ∧ wj.ownsRow wo.heap.size 9 1 v8 k ((projM (os.take k) r).map Value.string) ∧ Ext wo wj) (fun _ v9 _ => on - (intOf v9).toNat)
      case atStart => exact ⟨0, Nat.zero_le _, rfl, World.ownsRow_nil _ _ _ _, Below.refl _ _⟩
      case round =>
        obtain ⟨k, hk, rfl, hown, hex⟩ := hrel
        have OK9 := Lib.hid hown
        have EX9 := Lib.hid hex
        have x4 := keep hex x3
        obtain ⟨a8, c8, rfl, _⟩ := own_form hown
        by_cases hlk : k < on
        · have hki : (k : Int) < (on : Int) := by omega
          obtain ⟨c, b2, o2, hc, rfl, h1⟩ := ((HO.out.keep HEW.out).keep hex).2.at hlk
          have hcv := HOK.out k c hc
          obtain ⟨m, rfl⟩ : ∃ m : Nat, c = (m : Int) := ⟨c.toNat, by omega⟩
          have g3 : wr.cell? ⟨b2, o2 + k, none⟩ = some (.int .i64 (m : Int)) := by simpa [intAt] using h1
          obtain ⟨t, b3, o3, ht, rfl, h2⟩ := (G2.out.keep hex).2.at (i := m) (by omega)
          have g4 : wr.cell? ⟨b3, o3 + m, none⟩ = some (.string t) := by simpa [strAt] using h2
          have g5 := keep hex g1
          have PS : Hid (projM (os.take (k + 1)) r = projM (os.take k) r ++ [t]) := projM_snoc hc r (by simpa using ht)
          have hmn : (m : Int) < (n5 : Int) := by omega
          have dr := ext_drew (Below.refl _ wr)
          have d1 := keep dr g3
          have d2 := keep dr g4
          have d3 := keep dr g5
          have d4 := keep dr x4
          have OW7 : Hid (wr.drew.ownsRow wo.heap.size 9 1 (.slice a8 k c8) k ((projM (os.take k) r).map Value.string)) := up_ext hown dr
          have hz : Hid (wo.heap.size ≤ wr.drew.heap.size) := hex.size
          have hkm : k ≤ 1000000 := by omega
          clear hc h1 ht h2 hown hex g3 g4 g5 dr hcv
          go_wp2
          go_region_law (first
            | (refine step_push_str wr.drew t wo.heap.size a8 k c8 (projM (os.take k) r) OW7.out hkm hz.out (by rfl) _ _ (by rfl) (by rfl) (by rfl) ?_; intro g6 c6 w6 p1 p2; have P1 := Lib.hid p1; have P2 := Lib.hid p2; clear p1 p2)
            | fail)
          all_goals
            go_wp2
            go_roundw
            case rel =>
              refine ⟨k + 1, by omega, by go_num, ?_, ?_⟩
              · rw [PS.out]
                exact P1.out
              · exact ext_ownB (ext_alloc (ext_drew EX9.out) _) P2.out (fun g e => (OW7.out.lt g e).1)
            case measure => simp [intOf]; omega
        · obtain rfl : k = on := by omega
          have hge : ¬ (k : Int) < (k : Int) := by omega
          have ht : os.take k = os := List.take_of_length_le (by omega)
          rw [ht] at hown
          have EW2 : Hid (Ext W1 wr) := ext_trans EX.out hex
          have O2 := Lib.hid (up_ext OW.out hex)
          have WY := Lib.hid hown
          have hwm : projM os r ∈ ways := (HMEM.out _).2 ⟨r, List.mem_of_getElem? HX.out, rfl⟩
          have HWM := Lib.hid hwm
          clear hown hex OK9 hwm
          go_wp2
          go_loopw [10, 11] (fun v10 v11 wj => ∃ q : Nat, q ≤ nm ∧ v11 = .int .i64 (q : Int) ∧ v10 = .bool (memB (ways.take q) (projM os r)) ∧ Ext W1 wj ∧ wj.ownsRow W1.heap.size 4 1 (.slice (some ⟨W1.heap.size, 0, none⟩) nm nm) nm ((usedM ways all os i q).map Value.bool) ∧ wj.ownsRow wo.heap.size 9 1 (.slice a8 k c8) k ((projM os r).map Value.string)) (fun _ v11 _ => nm - (intOf v11).toNat)
          case atStart => exact ⟨0, Nat.zero_le _, rfl, rfl, EW2.out, O2.out, WY.out⟩
          case round =>
            obtain ⟨q, hq, rfl, rfl, hex, hub, hwy⟩ := hrel
            have EXq := Lib.hid hex
            have UBq := Lib.hid hub
            have WYq := Lib.hid hwy
            by_cases hlq : q < nm
            · have hqi : (q : Int) < (nm : Int) := by omega
              obtain ⟨z, b4, o4, hz, rfl, a6, n6, c6, g6, g7⟩ := ((HM.out.keep E1h.out).keep hex).2.at hlq
              have g6 : wr.cell? ⟨b4, o4 + q, none⟩ = some (.slice a6 n6 c6) := by simpa using g6
              obtain ⟨t, ht⟩ : ∃ t, decide (z = projM os r) = t := ⟨_, rfl⟩
              have TX : Hid (Calls Try.prog 25 #[.slice a6 n6 c6, .slice a8 k c8] wr fun e w' => e = .returned (.bool t) ∧ Ext wr w') := by
                rw [← ht]
                exact c_texts z (projM os r) _ _ _ _ _ _ wr g7 (own_strs hwy (own_len hwy).1)
              have MT : Hid (memB (ways.take (q + 1)) (projM os r) = (memB (ways.take q) (projM os r) || t)) := by
                show _ = _
                rw [← ht, take_at hz]
                unfold memB
                rw [List.any_append]
                simp
              cases t with
              | true =>
                have hzz : z = projM os r := by simpa using ht
                have US : Hid ((usedM ways all os i q).set q true = usedM ways all os i (q + 1)) := usedM_hit HX.out (by rw [← hzz]; exact hz)
                obtain ⟨g8, g9⟩ : (∃ y, wr.cell? ⟨W1.heap.size, q, none⟩ = some y) ∧ wr.frozen? ⟨W1.heap.size, q, none⟩ = false := by
                  have hul : q < ((usedM ways all os i q).map Value.bool).length := by rw [List.length_map, usedM_len, HWL.out]; exact hlq
                  have := hub.cells (g := W1.heap.size) rfl q _ (List.getElem?_eq_getElem hul)
                  rw [Addr.add_lit, Nat.zero_add] at this
                  exact ⟨⟨_, this⟩, hub.frozenAt _⟩
                obtain ⟨y8, g8⟩ := g8
                clear hex hub hwy hz g7 ht hzz
                go_wp2_with (go_at_call 25; (with_reducible refine TX.out.mono ?_); rintro e w3 ⟨rfl, E3⟩; have n8 := keep E3 g8; have n9 : w3.frozen? ⟨W1.heap.size, q, none⟩ = false := (E3.frozen (p := ⟨W1.heap.size, q, none⟩) (World.block_lt_of_cell? wr ⟨W1.heap.size, q, none⟩ g8)).trans g9)
                go_roundw
                case rel =>
                  have s1 := ((up_ext UBq.out E3).stored q (.bool true)).1
                  have e9 : ((usedM ways all os i q).map Value.bool).set q (.bool true) = (usedM ways all os i (q + 1)).map Value.bool := by rw [← US.out, List.map_set]
                  rw [e9] at s1
                  exact ⟨q + 1, by omega, by go_num, by rw [MT.out, Bool.or_true], ext_set (ext_trans EXq.out E3) (Nat.le_refl _) _, s1, own_set_other (a := ⟨W1.heap.size, q, none⟩) (up_ext WYq.out E3) (own_apart (up_ext WYq.out E3) (up_ext UBq.out E3) (by decide)) _⟩
                case measure => simp [intOf]; omega
              | false =>
                have hzz : z ≠ projM os r := by simpa using ht
                have US : Hid (usedM ways all os i (q + 1) = usedM ways all os i q) := usedM_miss HX.out hz hzz
                clear hex hub hwy hz g7 ht hzz
                go_wp2_with (go_at_call 25; (with_reducible refine TX.out.mono ?_); rintro e w3 ⟨rfl, E3⟩)
                go_roundw
                case rel => exact ⟨q + 1, by omega, by go_num, by rw [MT.out, Bool.or_false], ext_trans EXq.out E3, by rw [US.out]; exact up_ext UBq.out E3, up_ext WYq.out E3⟩
                case measure => simp [intOf]; omega
            · obtain rfl : q = nm := by omega
              have hgq : ¬ (q : Int) < (q : Int) := by omega
              have hmt : memB (ways.take q) (projM os r) = true := by
                rw [List.take_of_length_le (by rw [HWL.out]; exact Nat.le_refl _)]
                exact (memB_iff _ _).2 HWM.out
              rw [hmt]
              clear hex hub hwy hmt
              go_wp2
              go_roundw
              case rel =>
                have u9 := UBq.out
                have e9 := usedM_row ways all os i
                rw [HWL.out] at e9
                rw [e9] at u9
                exact ⟨i + 1, by omega, by go_num, EXq.out, u9⟩
              case measure => simp [intOf]; omega
    · obtain rfl : i = all.length := by omega
      have hge : ¬ (all.length : Int) < (all.length : Int) := by omega
      clear hex hown
      go_wp2
      go_loopw [12] (fun v12 wj => ∃ k : Nat, k ≤ nm ∧ v12 = .int .i64 (k : Int) ∧ wj = wo) (fun v12 _ => nm - (intOf v12).toNat)
      case atStart => exact ⟨0, Nat.zero_le _, rfl, rfl⟩
      case round =>
        obtain ⟨k, hk, rfl, rfl⟩ := hrel
        by_cases hlk : k < nm
        · have hki : (k : Int) < (nm : Int) := by omega
          have g3 : wr.cell? ⟨W1.heap.size, k, none⟩ = some (.bool true) := by
            have := OW.out.cells (g := W1.heap.size) rfl k (.bool true) (by
              rw [List.getElem?_map, usedM_full (fun z hz => (HMEM.out z).1 hz) (by rw [HWL.out]; exact hlk)]
              rfl)
            rwa [Addr.add_lit, Nat.zero_add] at this
          go_wp2
          go_roundw
          case rel => exact ⟨k + 1, by omega, by go_num, by first | trivial | rfl⟩
          case measure => simp [intOf]; omega
        · obtain rfl : k = nm := by omega
          have hge2 : ¬ (k : Int) < (k : Int) := by omega
          go_wp2
          go_returns
          exact ⟨rfl, HEW.out⟩
end Go.Proofs.Ythjpfplebbnbpaa
