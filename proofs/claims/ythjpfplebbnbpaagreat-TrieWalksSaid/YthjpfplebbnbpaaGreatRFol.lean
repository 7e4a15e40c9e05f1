/- The document's trie: the walk of Follow; what it tells is what the program's trie tells. -/
import Derived.Test.YthjpfplebbnbpaaGreatRCnt
import Derived.Test.YthjpfplebbnbpaaGreatCur4
namespace Go.Proofs.YthjpfplebbnbpaaGreat
open Go.ChangeShapes Go.WideShapes Go.ChangeAt Go.RowKit
/-- What follows, way by way. -/
def folStep (b : List ByteArray) (out : List ByteArray) (x : List ByteArray) : List ByteArray := if x.take b.length = b then (if out.getLast? = some (x[b.length]?.getD ⟨#[]⟩) then out else out ++ [x[b.length]?.getD ⟨#[]⟩]) else out
def folR (ways : List (List ByteArray)) (b : List ByteArray) : List ByteArray := ways.foldl (folStep b) []
theorem folR_snoc (ways : List (List ByteArray)) (x b : List ByteArray) : folR (ways ++ [x]) b = folStep b (folR ways b) x := by simp [folR]
theorem take_wayAt {ways : List (List ByteArray)} {m : Nat} (h : m < ways.length) : ways.take (m + 1) = ways.take m ++ [wayAt ways m] := by
  rw [List.take_add_one]
  congr 1
  unfold wayAt
  rw [List.getElem?_eq_getElem h]
  rfl
/-- No way begins so: nothing follows. -/
theorem folR_none {ways : List (List ByteArray)} {b : List ByteArray} (h : ∀ m, m < ways.length → (wayAt ways m).take b.length ≠ b) : ∀ m, m ≤ ways.length → folR (ways.take m) b = []
  | 0, _ => rfl
  | m + 1, hm => by
    rw [take_wayAt (by omega), folR_snoc, folR_none h m (by omega)]
    unfold folStep
    rw [if_neg (h m (by omega))]
theorem segKeys_none (ways : List (List ByteArray)) (k A : Nat) : segKeys ways k A A = [] := by simp [segKeys]
theorem segKeys_next {ways : List (List ByteArray)} {k A m : Nat} (hA : A ≤ m) (hm : m < ways.length) : segKeys ways k A (m + 1) = segKeys ways k A m ++ if fresh ways k m = true then [keyAt ways k m] else [] := by
  unfold segKeys
  have h1 := wid_mono ways k hA
  rw [wid_succ]
  by_cases hf : fresh ways k m = true
  · rw [if_pos hf, if_pos hf, show wid ways k m + 1 - wid ways k A = (wid ways k m - wid ways k A) + 1 by omega, List.take_add_one]
    congr 1
    rw [List.getElem?_drop, show wid ways k A + (wid ways k m - wid ways k A) = wid ways k m by omega]
    unfold keysM
    rw [List.getElem?_map, starts_at ways k hm hf]
    rfl
  · rw [if_neg hf, if_neg hf, Nat.add_zero, List.append_nil]
/-- The last of what followed so far is what stands in the way ahead. -/
theorem segKeys_last {d : Nat} {ways : List (List ByteArray)} (hw : Ways d ways) {k A m : Nat} (hk : k < d) (hfA : fresh ways k A = true) (hA : A ≤ m) (hm : m < ways.length) : (segKeys ways k A (m + 1)).getLast? = some (keyAt ways k m) := by
  induction m with
  | zero =>
    obtain rfl : A = 0 := by omega
    rw [segKeys_next (Nat.le_refl _) hm, segKeys_none, if_pos hfA]
    rfl
  | succ m ih =>
    rw [segKeys_next hA hm]
    by_cases hf : fresh ways k (m + 1) = true
    · rw [if_pos hf, List.getLast?_concat]
    · have hne : A ≠ m + 1 := fun e => hf (e ▸ hfA)
      rw [if_neg hf, List.append_nil, ih (by omega) (by omega)]
      unfold fresh at hf
      have e : (wayAt ways m).take (k + 1) = (wayAt ways (m + 1)).take (k + 1) := by simpa using hf
      rw [take_key hw (by omega) hk, take_key hw hm hk] at e
      rw [(by simpa using (List.append_inj' e rfl).2 : keyAt ways k m = keyAt ways k (m + 1))]
theorem folR_some {d : Nat} {ways : List (List ByteArray)} (hw : Ways d ways) {b : List ByteArray} {p A B : Nat} (hb : b.length < d) (h : FindSt ways b b.length p A B) : ∀ m, m ≤ ways.length → folR (ways.take m) b = segKeys ways b.length A (max A (min m B))
  | 0, _ => by
    have : max A (min 0 B) = A := by omega
    rw [this, segKeys_none]
    rfl
  | m + 1, hm => by
    have ih := folR_some hw hb h m (by omega)
    have hpre : ∀ q, q < ways.length → ((wayAt ways q).take b.length = b ↔ A ≤ q ∧ q < B) := fun q hq => by
      constructor
      · intro e
        exact h.all q hq (by rw [List.take_length]; exact e)
      · intro ⟨e1, e2⟩
        have := h.pre_at e1 e2
        rwa [List.take_length] at this
    have hfA : fresh ways b.length A = true := by
      rcases Nat.eq_zero_or_pos b.length with h0 | h0
      · obtain ⟨_, e, _⟩ := h.zero h0
        rw [e]
        exact fresh_zero ways _
      · obtain ⟨e1, e2, _⟩ := h.pos h0
        have := (st_spec ways (b.length - 1) p e1).2.1
        rw [← e2] at this
        exact fresh_up ways this (by omega)
    rw [take_wayAt (by omega), folR_snoc, ih]
    unfold folStep
    by_cases hin : A ≤ m ∧ m < B
    · rw [if_pos ((hpre m (by omega)).2 hin)]
      have e1 : max A (min m B) = m := by omega
      have e2 : max A (min (m + 1) B) = m + 1 := by omega
      rw [e1, e2, segKeys_next hin.1 (by omega)]
      have e3 : (wayAt ways m)[b.length]?.getD ⟨#[]⟩ = keyAt ways b.length m := rfl
      rw [e3]
      rcases Nat.eq_or_lt_of_le hin.1 with e | e
      · subst e
        rw [segKeys_none, if_pos hfA, if_neg (by simp)]
      · obtain ⟨q, rfl⟩ : ∃ q, m = q + 1 := ⟨m - 1, by omega⟩
        rw [segKeys_last hw hb hfA (by omega) (by omega)]
        have t1 := (hpre q (by omega)).2 ⟨by omega, by omega⟩
        have t2 := (hpre (q + 1) (by omega)).2 hin
        have hfi : fresh ways b.length (q + 1) = true ↔ keyAt ways b.length q ≠ keyAt ways b.length (q + 1) := by
          unfold fresh
          rw [Nat.add_sub_cancel, take_key hw (by omega) hb, take_key hw (by omega) hb, t1, t2]
          simp
        by_cases hk : keyAt ways b.length q = keyAt ways b.length (q + 1)
        · rw [if_pos (by rw [hk]), if_neg (fun hf => hfi.1 hf hk), List.append_nil]
        · rw [if_neg (by simpa using hk), if_pos (hfi.2 hk)]
    · rw [if_neg (fun e => hin ((hpre m (by omega)).1 e))]
      have : max A (min (m + 1) B) = max A (min m B) := by omega
      rw [this]
theorem FolIs.eq {d : Nat} {ways : List (List ByteArray)} (hw : Ways d ways) {b xs : List ByteArray} (h : FolIs d ways b xs) : xs = if d ≤ b.length then [] else folR ways b := by
  rcases h with ⟨p, A, B, h1, h2, rfl⟩ | ⟨h1, rfl⟩
  · rw [if_neg (by omega)]
    have h3 := folR_some hw h1 h2 ways.length (Nat.le_refl _)
    rw [List.take_length] at h3
    have := h2.lt
    have := h2.seg.top
    rw [h3, show max A (min ways.length B) = B by omega]
  · rcases h1 with h1 | h1
    · rw [if_pos h1]
    · have h3 := folR_none h1 ways.length (Nat.le_refl _)
      rw [List.take_length] at h3
      rw [h3]
      simp
theorem folStep_len (b out x : List ByteArray) : (folStep b out x).length ≤ out.length + 1 := by
  unfold folStep
  split
  · split
    · omega
    · simp
  · omega
theorem folR_len (ways : List (List ByteArray)) (b : List ByteArray) : (folR ways b).length ≤ ways.length := by
  refine snoc_ind (P := fun ways => (folR ways b).length ≤ ways.length) (Nat.le_refl _) (fun l x h => ?_) ways
  rw [folR_snoc, List.length_append, List.length_singleton]
  have := folStep_len b (folR l b) x
  omega
theorem c_rfollowNil (ab : Option Addr) (m cb : Nat) (w : World) : Calls Tryz.prog 13 #[.pointer none, .slice ab m cb] w fun e w' => e = .returned (.slice none 0 0) ∧ w' = w := by
  have eqn := nil_eqRT
  go_enter Tryz.func13, Tryz.ntmps13
  go_wp2
  go_returns
  exact ⟨rfl, rfl⟩
def RFolPost (d : Nat) (ways : List (List ByteArray)) (b : List ByteArray) (w : World) (e : Ending) (w' : World) : Prop := ∃ a n c, e = .returned (.slice a n c) ∧ w'.ownsRow w.heap.size 9 1 (.slice a n c) n ((if d ≤ b.length then [] else folR ways b).map Value.string) ∧ Ext w w' ∧ n ≤ 1000000
set_option maxRecDepth 100000 in
set_option maxHeartbeats 1000000 in
theorem c_rfollow (lo pt d : Nat) (ways : List (List ByteArray)) (b : List ByteArray) (ab : Option Addr) (m cb : Nat) (w : World) (h : RTrie w lo pt d ways) (hl : ∀ r ∈ ways, r.length = d) (hb : StrsAt w ab m b) (hn : ways.length ≤ 1000000) :
    Calls Tryz.prog 13 #[.pointer (some ⟨pt, 0, none⟩), .slice ab m cb] w (RFolPost d ways b w) := by
  obtain ⟨i0, hi0, hz0, hz1, hz2⟩ := info_parts info_str
  have H := Lib.hid h
  have HB := Lib.hid hb
  have HLD := Lib.hid hl
  have hbm : b.length = m := hb.2.1
  have HBM := Lib.hid hbm
  obtain ⟨aw, cw, h1, it⟩ := h.items
  have C0 := Lib.hid h.c0
  have C1 := Lib.hid h1
  have IT := Lib.hid it
  have eqn := ptr_eqRT
  obtain ⟨n, hnn⟩ : ∃ n, ways.length = n := ⟨_, rfl⟩
  have HN := Lib.hid hnn
  rw [hnn] at hn IT C1
  have c0 := C0.out
  have c1 := C1.out
  by_cases hdm : d ≤ m
  · have hq1 : (d : Int) ≤ (m : Int) := by omega
    have FIN : Hid (RFolPost d ways b w (.returned (.slice none 0 0)) w) := ⟨none, 0, 0, rfl, by rw [if_pos (by omega)]; exact World.ownsRow_nil _ _ _ _, Below.refl _ _, Nat.zero_le _⟩
    clear h hl hb h1 it hnn hbm c1
    go_enter Tryz.func13, Tryz.ntmps13
    go_wp2
    go_returns
    exact FIN.out
  · have hq1 : ¬ (d : Int) ≤ (m : Int) := by omega
    have FIN : Hid (∀ a k c W, W.ownsRow w.heap.size 9 1 (.slice a k c) k ((folR ways b).map Value.string) → Ext w W → k ≤ 1000000 → RFolPost d ways b w (.returned (.slice a k c)) W) := fun a k c W h1 h2 h3 => ⟨a, k, c, rfl, by rw [if_neg (by omega)]; exact h1, h2, h3⟩
    clear h hl hb h1 it hnn hbm
    go_enter Tryz.func13, Tryz.ntmps13
    go_wp2
    clear c0 c1
    go_loopw [5, 6] (fun v5 v6 wj => ∃ k c : Nat, k ≤ n ∧ c ≤ k ∧ v6 = .int .i64 (k : Int) ∧ wj.ownsRow w.heap.size 9 1 v5 c ((folR (ways.take k) b).map Value.string) ∧ Ext w wj) (fun _ v6 _ => n - (intOf v6).toNat)
    case atStart => exact ⟨0, 0, Nat.zero_le _, Nat.le_refl _, rfl, World.ownsRow_nil _ _ _ _, Below.refl _ _⟩
    case round =>
      obtain ⟨k, c, hk, hck, rfl, hown, hw⟩ := hrel
      obtain ⟨a5, c5, rfl, _⟩ := own_form hown
      have HW := Lib.hid hw
      have OWN := Lib.hid hown
      have c1 := keep hw C1.out
      by_cases hlt : k < n
      · have hki : (k : Int) < (n : Int) := by omega
        obtain ⟨x, b1, o1, hx, rfl, a6, n6, c6, g1, g2⟩ := (IT.out.keep hw).2.at hlt
        have g1 : wr.cell? ⟨b1, o1 + k, none⟩ = some (.slice a6 n6 c6) := by simpa using g1
        have hn6 : n6 = d := by
          have e1 := HLD.out x (List.mem_of_getElem? hx)
          have e2 := g2.2.1
          omega
        obtain ⟨q, hq⟩ : ∃ q, decide (x.take b.length = b) = q := ⟨_, rfl⟩
        have BE : Hid (Calls Tryz.prog 49 #[.slice a6 n6 c6, .slice ab m cb] wr fun e w' => e = .returned (.bool q) ∧ Ext wr w') := by
          have := c_rbegins x b a6 n6 c6 ab m cb wr g2 (HB.out.keep hw)
          rwa [hq] at this
        have ST : Hid (folR (ways.take (k + 1)) b = folStep b (folR (ways.take k) b) x) := by
          show _ = _
          rw [take_at hx, folR_snoc]
        obtain ⟨t, b2, o2, ht, e, h2⟩ := g2.2.at (i := m) (by omega)
        have G2 : Hid (a6 = some ⟨b2, o2, none⟩ ∧ wr.cell? ⟨b2, o2 + m, none⟩ = some (.string t)) := ⟨e, by simpa [strAt] using h2⟩
        have HT : Hid (x[b.length]? = some t) := by show _ = _; rw [HBM.out]; exact ht
        have HQ := Lib.hid hq
        have G1 := Lib.hid g1
        clear hx g2 hw hq h2 ht e hown
        subst hn6
        cases q with
        | false =>
          have NX : Hid (folR (ways.take (k + 1)) b = folR (ways.take k) b) := by
            show _ = _
            rw [ST.out]
            unfold folStep
            rw [if_neg (by have := HQ.out; simpa using this)]
          go_wp2_with (go_at_call 49; (with_reducible refine BE.out.mono ?_); rintro e w2 ⟨rfl, E2⟩)
          go_roundw
          case rel => exact ⟨k + 1, c, by omega, by omega, by go_num, by rw [NX.out]; exact up_ext OWN.out E2, ext_trans HW.out E2⟩
          case measure => simp [intOf]; omega
        | true =>
          have hmd : (m : Int) < (n6 : Int) := by omega
          have hcl : (folR (ways.take k) b).length = c := by
            have := OWN.out.1
            rw [List.length_map] at this
            omega
          go_upto_region 8 with (go_at_call 49; (with_reducible refine BE.out.mono ?_); rintro e w2 ⟨rfl, E2⟩)
          have k1 := keep E2 c1
          have k2 := keep E2 g1
          have k3 := keep E2 G2.out.2
          have OW2 := Lib.hid (up_ext OWN.out E2)
          have EW2 := Lib.hid (ext_trans HW.out E2)
          rw [G2.out.1] at k2
          clear c1 g1 E2 BE
          go_upto_region 9 with (fail)
          have HSZ : Hid (w.heap.size ≤ w2.heap.size) := EW2.out.size
          have B1 : Hid (c + 1 ≤ maxLen) := by show _ ≤ _; unfold maxLen; omega
          have B2 : Hid ((c + 1) * 16 ≤ 140737488355328) := by show _ ≤ _; omega
          rcases List.eq_nil_or_concat (folR (ways.take k) b) with e | ⟨pre, y, e⟩
          · have hc0 : c = 0 := by rw [← hcl, e]; rfl
            subst hc0
            have NX : Hid (folR (ways.take (k + 1)) b = folR (ways.take k) b ++ [t]) := by
              show _ = _
              rw [ST.out]
              unfold folStep
              rw [if_pos (by have := HQ.out; simpa using this), HT.out, e]
              rfl
            clear e hcl k1 k2 k3
            go_wp2_with (at_builtin; go_loud (refine wpList_append_one _ rfl _ _ 46 rfl w.heap.size 9 i0 (.string ⟨#[]⟩) 1 16 Tryz.underlying46 hi0 hz0 hz1 hz2 rfl (by decide) a5 0 c5 ((folR (ways.take k) b).map Value.string) rfl (OW2.out.alloc _) ⟨w2.heap.size, 0, none⟩ 1 [.string t] rfl rfl (news1 _ _ _) (fun u hu => by cases List.mem_singleton.1 hu; rfl) B1.out B2.out (size_alloc_le HSZ.out) ?_; intro g7 p7 w7 r1 r2 r3 r4))
            have EF : Hid (Ext w w7) := ext_ownB (ext_alloc EW2.out _) r2 (fun g e => (OW2.out.lt g e).1)
            have R1 := Lib.hid r1
            clear r1 r2 r3 r4
            go_roundw
            case rel => exact ⟨k + 1, 1, by omega, by omega, by go_num, by rw [NX.out, List.map_append]; exact R1.out, EF.out⟩
            case measure => simp [intOf]; omega
          · rw [List.concat_eq_append] at e
            obtain ⟨q, rfl⟩ : ∃ q, c = q + 1 := ⟨pre.length, by rw [← hcl, e]; simp⟩
            have hpl : pre.length = q := by rw [e] at hcl; simpa using hcl
            obtain ⟨g5, cc5, e5, _⟩ := own_formS OW2.out (by omega)
            cases e5
            have ly := OW2.out.cells (g := g5) rfl q (.string y) (by rw [e, List.map_append, List.getElem?_append_right (by simp [hpl])]; simp [hpl])
            rw [Addr.add_lit, Nat.zero_add] at ly
            have hLY := Lib.hid ly
            have hqc : (q : Int) < (q : Int) + 1 := by omega
            have wq : IntKind.i64.wrap (q : Int) = (q : Int) := by rw [IntKind.wrap_i64]; omega
            obtain ⟨z, hz⟩ : ∃ z, (y.toList == t.toList) = z := ⟨_, rfl⟩
            have HZ := Lib.hid ((beq_bytes y t).symm.trans hz)
            have z1 : ¬ ((q : Int) + 1 = 0) := by omega
            cases z with
            | true =>
              have NX : Hid (folR (ways.take (k + 1)) b = folR (ways.take k) b) := by
                show _ = _
                rw [ST.out]
                unfold folStep
                rw [if_pos (by have := HQ.out; simpa using this), HT.out, e, List.getLast?_concat]
                have := HZ.out
                rw [if_pos (by simpa using this)]
              clear e hcl hpl k1 k2 k3
              go_wp2
              go_roundw
              case rel => exact ⟨k + 1, q + 1, by omega, by omega, by go_num, by rw [NX.out]; exact OW2.out, EW2.out⟩
              case measure => simp [intOf]; omega
            | false =>
              have NX : Hid (folR (ways.take (k + 1)) b = folR (ways.take k) b ++ [t]) := by
                show _ = _
                rw [ST.out]
                unfold folStep
                rw [if_pos (by have := HQ.out; simpa using this), HT.out, e, List.getLast?_concat]
                have := HZ.out
                rw [if_neg (by simpa using this)]
                rfl
              clear e hcl hpl k1 k2 k3
              go_wp2_with (at_builtin; go_loud (refine wpList_append_one _ rfl _ _ 46 rfl w.heap.size 9 i0 (.string ⟨#[]⟩) 1 16 Tryz.underlying46 hi0 hz0 hz1 hz2 rfl (by decide) (some ⟨g5, 0, none⟩) (q + 1) c5 ((folR (ways.take k) b).map Value.string) rfl (OW2.out.alloc _) ⟨w2.heap.size, 0, none⟩ 1 [.string t] rfl rfl (news1 _ _ _) (fun u hu => by cases List.mem_singleton.1 hu; rfl) B1.out B2.out (size_alloc_le HSZ.out) ?_; intro g7 p7 w7 r1 r2 r3 r4))
              have EF : Hid (Ext w w7) := ext_ownB (ext_alloc EW2.out _) r2 (fun g e => (OW2.out.lt g e).1)
              have R1 := Lib.hid r1
              clear r1 r2 r3 r4
              go_roundw
              case rel => exact ⟨k + 1, q + 1 + 1, by omega, by omega, by go_num, by rw [NX.out, List.map_append]; exact R1.out, EF.out⟩
              case measure => simp [intOf]; omega
      · obtain rfl : k = n := by omega
        have hge : ¬ (k : Int) < (k : Int) := by omega
        have ht : ways.take k = ways := List.take_of_length_le (by have := HN.out; omega)
        have OF := OWN.out
        rw [ht] at OF
        have OFh := Lib.hid OF
        clear OF hown
        go_wp2
        go_returns
        exact FIN.out _ _ _ _ OFh.out HW.out (by omega)
/-- What follows a beginning. -/
def folX (d : Nat) (ways : List (List ByteArray)) (b : List ByteArray) : List ByteArray := if d ≤ b.length then [] else folR ways b
end Go.Proofs.YthjpfplebbnbpaaGreat
