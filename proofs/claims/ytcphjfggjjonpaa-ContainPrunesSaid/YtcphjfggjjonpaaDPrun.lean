/- The walk of the document's Prune. -/
import Derived.Test.YtcphjfggjjonpaaNewQ
import Derived.Test.YtcphjfggjjonpaaLaidR
import Derived.Deep.OwnRows
namespace Go.Proofs.Ytcphjfggjjonpaa
open Go.ChangeShapes Go.WideShapes Go.ChangeAt Go.RowKit
/-- The mark of rule i. -/
def mk (l : List (Rule × Bool)) (i : Nat) : Bool := match l[i]? with
  | some (_, g) => g
  | none => false
theorem mk_of {l : List (Rule × Bool)} {i : Nat} {r : Rule} {g : Bool} (h : l[i]? = some (r, g)) : mk l i = g := by unfold mk; rw [h]
theorem mk_set {l : List (Rule × Bool)} {i : Nat} (x : Rule) (h : i < l.length) : mk (l.set i (x, true)) i = true := mk_of (r := x) (by rw [List.getElem?_set, if_pos rfl, if_pos h])
theorem mk_set_ne {l : List (Rule × Bool)} {i j : Nat} (x : Rule) (h : j ≠ i) : mk (l.set i (x, true)) j = mk l j := by
  unfold mk
  rw [List.getElem?_set_ne (fun e => h e.symm)]
/-- The marks lie in block b. -/
def MarksAt (w : World) (b n : Nat) (f : Nat → Bool) : Prop := w.rowIs b 4 n (fun i => .bool (f i))
theorem MarksAt.ext {w w' : World} {b n : Nat} {f : Nat → Bool} (h : MarksAt w b n f) (e : Ext w w') : MarksAt w' b n f := World.rowIs.of_block h (e.block b h.lt)
theorem MarksAt.at {w : World} {b n : Nat} {f : Nat → Bool} (h : MarksAt w b n f) {i : Nat} (hi : i < n) : w.cell? ⟨b, i, none⟩ = some (.bool (f i)) := World.rowIs.cell h hi
theorem MarksAt.put {w : World} {b n : Nat} {f g : Nat → Bool} (h : MarksAt w b n f) (i : Nat) (x : Bool) (hg : ∀ j, j < n → g j = if j = i then x else f j) : MarksAt (w.setCell ⟨b, i, none⟩ (.bool x)) b n g :=
  (World.rowIs.set h i (.bool x)).congr fun j hj => by
    rw [hg j hj]
    by_cases e : j = i
    · rw [if_pos e, if_pos e]
    · rw [if_neg e, if_neg e]
theorem ruleIn_of {w : World} {a : Option Addr} {n : Nat} {rs : List Rule} (h : RulesAt w a n rs) {i : Nat} {r : Rule} (hi : rs[i]? = some r) : ∃ (g off : Nat) (q : RuleQ), q.1 = r ∧ a = some ⟨g, off, none⟩ ∧ w.cell? ⟨g, off + i * 3, none⟩ = some (.string q.1.head.pred) ∧ w.cell? ⟨g, off + i * 3 + 1, none⟩ = some (.slice q.2.1.1 q.2.1.2.1 q.2.1.2.2) ∧ w.cell? ⟨g, off + i * 3 + 2, none⟩ = some (.slice q.2.2.1 q.2.2.2.1 q.2.2.2.2) ∧ okQ w q := by
  obtain ⟨b, off, ha, ah, nh, ch, ab, nb, cb, h0, h1, h2, hv⟩ := h.2.2 i r hi
  exact ⟨b, off, (r, (ah, nh, ch), (ab, nb, cb)), rfl, ha, h0, h1, h2, hv⟩
def outD (R : Int × Option (List (Rule × Bool))) : Int × Option (List Rule) := (R.1, R.2.map kept)
def stepD (i : Nat) (x : Rule) (l : List (Rule × Bool)) : Sc → Int × Option (List (Rule × Bool))
  | .err e => (e, none)
  | .yes => pruneD i (l.set i (x, true))
  | .no => pruneD i l
theorem pruneD_plain {i : Nat} {l : List (Rule × Bool)} {x : Rule} {g : Bool} (h : l[i]? = some (x, g)) (hp : plain x = true) : pruneD (i + 1) l = stepD i x l (scanD x i l 0) := by
  rw [pruneD, h]
  simp only
  rw [if_neg (by rw [hp]; simp)]
  cases scanD x i l 0 <;> rfl
theorem pruneD_not {i : Nat} {l : List (Rule × Bool)} {x : Rule} {g : Bool} (h : l[i]? = some (x, g)) (hp : plain x = false) : pruneD (i + 1) l = pruneD i l := by
  rw [pruneD, h]
  simp only
  rw [if_pos hp]
theorem l_at {l : List (Rule × Bool)} {rs : List Rule} {i : Nat} {x : Rule} (hm : l.map (·.1) = rs) (h : rs[i]? = some x) : l[i]? = some (x, mk l i) := by
  rw [← hm, List.getElem?_map] at h
  obtain ⟨⟨y, g⟩, hy, rfl⟩ := Option.map_eq_some_iff.1 h
  rw [hy, mk_of hy]
theorem set_map {l : List (Rule × Bool)} {rs : List Rule} {i : Nat} {x : Rule} (hm : l.map (·.1) = rs) (h : rs[i]? = some x) : (l.set i (x, true)).map (·.1) = rs := by
  rw [List.map_set, hm]
  obtain ⟨hi, rfl⟩ := List.getElem?_eq_some_iff.1 h
  exact List.set_getElem_self hi
theorem kept_take {l : List (Rule × Bool)} {k : Nat} {x : Rule} (h : l[k]? = some (x, false)) : (kept l)[(kept (l.take k)).length]? = some x ∧ (kept (l.take (k + 1))).length = (kept (l.take k)).length + 1 := by
  have e : l = l.take k ++ (x, false) :: l.drop (k + 1) := by
    rw [← drop_at h, List.take_append_drop]
  constructor
  · conv => lhs; arg 1; rw [e]
    rw [kept_append, List.getElem?_append_right (Nat.le_refl _), Nat.sub_self]
    simp [kept]
  · rw [take_at h, kept_append]
    simp [kept]
theorem kept_skip {l : List (Rule × Bool)} {k : Nat} {x : Rule} (h : l[k]? = some (x, true)) : (kept (l.take (k + 1))).length = (kept (l.take k)).length := by
  rw [take_at h, kept_append]
  simp [kept]
theorem kept_mem {l : List (Rule × Bool)} {r : Rule} (h : r ∈ kept l) : r ∈ l.map (·.1) := by
  induction l with
  | nil => cases h
  | cons p l ih =>
    obtain ⟨s, g⟩ := p
    rw [kept] at h
    by_cases hg : g = true
    · rw [if_pos hg] at h
      exact List.mem_cons_of_mem _ (ih h)
    · rw [if_neg hg] at h
      rcases List.mem_cons.1 h with rfl | h
      · exact List.mem_cons_self
      · exact List.mem_cons_of_mem _ (ih h)
theorem kept_len (l : List (Rule × Bool)) : (kept l).length ≤ l.length := by
  induction l with
  | nil => exact Nat.le_refl _
  | cons p l ih =>
    obtain ⟨s, g⟩ := p
    rw [kept, List.length_cons]
    split
    · omega
    · rw [List.length_cons]
      omega
theorem cells3_at {w : World} {g : Nat} (u0 u1 u2 : Value) (t : TypeId) (hg : g = w.heap.size) : ∀ ad, some (⟨g, 0, none⟩ : Addr) = some ad → ∀ j u, [u0, u1, u2][j]? = some u → (w.alloc (.cells #[u0, u1, u2] t)).cell? (ad.add j) = some u := by
  intro ad e j u hu
  cases e
  subst hg
  exact news_three w u0 u1 u2 t j u hu
theorem flatQ_one' (q : RuleQ) : ∀ u ∈ valsQ q, u.oneCell' = true := fun u hu => flatQ_one [q] u (by simpa [flatQ] using hu)
theorem map_false (rs : List Rule) : (rs.map fun r => (r, false)).map (·.1) = rs := by
  induction rs with
  | nil => rfl
  | cons r l ih => simpa using ih
theorem info_bool : (Try.prog.info? 4).map (fun i => (i.zero, i.size, i.bytes)) = some (some (.bool false), 1, 1) := by kernel_rfl
theorem mayProg_small {rs : List Rule} (h : mayProg rs = 0) : rs.length ≤ 1024 := by
  unfold mayProg at h
  split at h
  · cases h
  · omega
set_option maxRecDepth 100000 in
set_option maxHeartbeats 4000000 in
theorem c_dPrune (rs : List Rule) (a : Option Addr) (n cap : Nat) (w : World) (hr : RulesAt w a n rs) :
    Calls Try.prog 26 #[.agg #[.slice a n cap]] w (PrunePost (prune rs) w) := by
  have HR := Lib.hid hr
  have HL := Lib.hid hr.2.1
  clear hr
  obtain ⟨R, hR⟩ : ∃ R, R = prune rs := ⟨_, rfl⟩
  rw [← hR]
  have FIN := Lib.hid hR
  clear hR
  obtain ⟨i0, hi, hi0, hi1, hi2⟩ := info_parts info_bool
  obtain ⟨j0, jj, jj0, jj1, jj2⟩ := info_parts info_rule
  go_enter Try.func26, Try.ntmps26
  go_upto_region 1 with (fail)
  refine wp_gen (fun W hW => ?_)
  have hb0 : Ext w W := by rw [hW]; go_grown
  have x0 : W.cell? ⟨w.heap.size, 0, none⟩ = some (.slice a n cap) := by rw [hW]; go_simp
  have z0 : W.cell? ⟨w.heap.size + 1, 0, none⟩ = some (.slice none 0 0) := by rw [hW]; go_simp
  have f0 : W.frozen? ⟨w.heap.size + 1, 0, none⟩ = false := by rw [hW]; go_simp
  have hz : w.heap.size + 1 < W.heap.size := World.block_lt_of_cell? _ _ z0
  clear hW
  obtain ⟨M, hM⟩ : ∃ M, mayProg rs = M := ⟨_, rfl⟩
  have HM := Lib.hid hM
  clear hM
  go_upto_region 2 with (go_at_call 52; (with_reducible refine (c_dMayP rs a n cap W (HR.out.keep hb0)).mono ?_); rw [HM.out]; rintro e w1 ⟨rfl, h1⟩; have x0 := keep h1 x0; have z0 := keep h1 z0; have f0 := (h1.frozen (p := ⟨w.heap.size + 1, 0, none⟩) hz).trans f0)
  have hb1 := ext_trans hb0 h1
  have hz1 : w.heap.size + 1 < w1.heap.size := Nat.lt_of_lt_of_le hz h1.size
  by_cases h0 : M = 0
  · subst h0
    have hn : n ≤ 1024 := by rw [← HL.out]; exact mayProg_small HM.out
    have B1 : Hid (i0.bytes * n ≤ 281474976710656) := by show _ ≤ _; rw [hi2]; omega
    have B2 : Hid (n ≤ 9223372036854775807) := by show _ ≤ _; omega
    clear h1 hb0
    have RUN := run_make_row (P := Try.prog) 100 4 i0 (.bool false) Try.underlying100 hi hi0 hi1 rfl .i64 .i64 n B1.out B2.out w1
    go_upto_region 5 with (fail)
    clear RUN
    refine wp_gen (fun W2 hW2 => ?_)
    have e2 : Ext w1 W2 := by rw [hW2]; exact ext_alloc (Below.refl _ _) _
    have mk0 : MarksAt W2 w1.heap.size n (fun _ => false) := by rw [hW2]; exact World.rowIs_made _ _ _ _
    obtain ⟨gb, hgb⟩ : ∃ b, b = w1.heap.size := ⟨_, rfl⟩
    rw [← hgb] at mk0 ⊢
    have HGB : Hid (w1.heap.size ≤ gb) := Nat.le_of_eq hgb.symm
    have MK0 := Lib.hid mk0
    have E2 := Lib.hid e2
    have ZZ := Lib.hid (show w1.cell? ⟨w.heap.size + 1, 0, none⟩ = some (.slice none 0 0) from z0)
    have FF := Lib.hid (show w1.frozen? ⟨w.heap.size + 1, 0, none⟩ = false from f0)
    have XX := Lib.hid (show w1.cell? ⟨w.heap.size, 0, none⟩ = some (.slice a n cap) from x0)
    have x0 := keep e2 x0
    have HQ0 : Hid (R = outD (pruneD n (rs.map fun r => (r, false)))) := by
      show _ = _
      rw [FIN.out, prune, if_neg (by rw [HM.out]; simp), prune_law, HL.out]
      rfl
    clear hW2 mk0 hgb B1 B2 z0 f0
    go_wp2
    go_loopw [6] (fun v6 wj => ∃ (j : Int) (l : List (Rule × Bool)), v6 = .int .i64 j ∧ -1 ≤ j ∧ j < (n : Int) ∧ l.map (·.1) = rs ∧ (∀ i : Nat, (i : Int) ≤ j → mk l i = false) ∧ MarksAt wj gb n (mk l) ∧ Ext w1 wj ∧ R = outD (pruneD (j + 1).toNat l)) (fun v6 _ => (intOf v6 + 1).toNat)
    case atStart =>
      refine ⟨(n : Int) - 1, rs.map fun r => (r, false), rfl, by omega, by omega, map_false rs, fun i _ => ?_, MK0.out.congr fun i _ => ?_, E2.out, by rw [HQ0.out, show ((n : Int) - 1 + 1).toNat = n by omega]⟩
      · unfold mk
        rw [List.getElem?_map]
        cases rs[i]? <;> rfl
      · unfold mk
        rw [List.getElem?_map]
        cases rs[i]? <;> rfl
    case round =>
      obtain ⟨j, l, rfl, hj1, hj2, hl, hlow, hmk, hE, hq⟩ := hrel
      have HLM := Lib.hid hl
      have LOW := Lib.hid hlow
      have MKS := Lib.hid hmk
      have HE := Lib.hid hE
      have HQ := Lib.hid hq
      have x1 := keep hE XX.out
      have RA := Lib.hid ((HR.out.keep hb1).keep hE)
      clear hl hlow hmk hE hq x0
      by_cases hj : j < 0
      · obtain rfl : j = -1 := by omega
        have hq2 : R = (0, some (kept l)) := by rw [HQ.out]; rfl
        have HQ2 := Lib.hid hq2
        have hln : l.length = n := by have h5 : (l.map (·.1)).length = l.length := List.length_map _; rw [HLM.out] at h5; have := HL.out; omega
        have HLN := Lib.hid hln
        have EW := Lib.hid (ext_trans hb1 HE.out)
        have HKL : Hid ((kept l).length ≤ 1024) := by show _ ≤ _; exact Nat.le_trans (kept_len l) (by omega)
        clear hj1 hj2 hq2 HQ hln
        go_upto_region 18 with (fail)
        refine wp_gen (fun W3 hW3 => ?_)
        have e3 : Ext wr W3 := by rw [hW3]; exact ext_alloc (Below.refl _ _) _
        have o0 : W3.cell? ⟨wr.heap.size, 0, none⟩ = some (.slice none 0 0) := by rw [hW3]; go_simp
        have o1 : W3.frozen? ⟨wr.heap.size, 0, none⟩ = false := by rw [hW3]; go_simp
        have o2 : wr.heap.size < W3.heap.size := World.block_lt_of_cell? W3 ⟨wr.heap.size, 0, none⟩ o0
        have OS : OutSt wr wr.heap.size (kept l) (kept (l.take 0)).length W3 := ⟨e3, o2, o1, [], none, 0, o0, by simp [kept], NewQs.nil _ _⟩
        have ZH := Lib.hid (keep HE.out ZZ.out)
        have FH : Hid (wr.frozen? ⟨w.heap.size + 1, 0, none⟩ = false) := (HE.out.frozen (p := ⟨w.heap.size + 1, 0, none⟩) hz1).trans FF.out
        have HWR := Lib.hid (Nat.lt_of_lt_of_le hz1 HE.out.size)
        obtain ⟨bo, hbo⟩ : ∃ b, b = wr.heap.size := ⟨_, rfl⟩
        rw [← hbo] at OS ⊢
        have HBO := Lib.hid hbo
        have HOS := Lib.hid OS
        clear hW3 o0 o1 o2 OS hbo e3
        obtain ⟨wo, rfl⟩ : ∃ wo : World, wo = wr := ⟨_, rfl⟩
        go_wp2
        go_loopw [11] (fun v wj => ∃ k : Nat, k ≤ n ∧ v = .int .i64 (k : Int) ∧ OutSt wo bo (kept l) (kept (l.take k)).length wj) (fun v _ => n - (intOf v).toNat)
        case atStart => exact ⟨0, by omega, rfl, HOS.out⟩
        case round =>
          obtain ⟨k, hk, rfl, hs⟩ := hrel
          have x2 := keep hs.old x1
          by_cases hlt : k < n
          · obtain ⟨r, hr⟩ : ∃ x, rs[k]? = some x := ⟨_, List.getElem?_eq_getElem (by rw [HL.out]; omega)⟩
            obtain ⟨g, off, q, rfl, rfl, k0, k1, k2, okq⟩ := ruleIn_of (RA.out.keep hs.old) hr
            have LK := l_at HLM.out hr
            have OQ : Hid (RuleV wr q.1 q.2.1.1 q.2.1.2.1 q.2.1.2.2 q.2.2.1 q.2.2.2.1 q.2.2.2.2) := okq
            have mk2 := (MKS.out.ext hs.old).at hlt
            have HS := Lib.hid hs
            have hki : (k : Int) < (n : Int) := by omega
            obtain ⟨G, hG⟩ : ∃ b, mk l k = b := ⟨_, rfl⟩
            rw [hG] at mk2 LK
            have HLK := Lib.hid LK
            clear hs hr okq hG LK
            cases G with
            | true =>
              go_wp2
              go_roundw
              case rel => exact ⟨k + 1, by omega, by go_num, by rw [kept_skip HLK.out]; exact HS.out⟩
              case measure => simp [intOf]; omega
            | false =>
              go_upto_region 23 with (go_at_call 53; (with_reducible refine (c_dOwn q.1 _ _ _ _ _ _ wr OQ.out).mono ?_); rintro e w6 ⟨a6, c6, b6, d6, rfl, R6, N6, h6⟩; have N6 := Lib.hid N6; have R6 := Lib.hid R6)
              refine wp_gen (fun W4 hW4 => ?_)
              have e4 : Ext w6 W4 := by rw [hW4]; exact ext_alloc (Below.refl _ _) _
              have b0 : W4.cell? ⟨w6.heap.size, 0, none⟩ = some (.string q.1.head.pred) := by rw [hW4]; go_simp
              have b1 : W4.cell? ⟨w6.heap.size, 1, none⟩ = some (.slice a6 q.2.1.2.1 c6) := by rw [hW4]; go_simp
              have b2 : W4.cell? ⟨w6.heap.size, 2, none⟩ = some (.slice b6 q.2.2.2.1 d6) := by rw [hW4]; go_simp
              obtain ⟨hold, hsz, hfr, qs, a5, c5, hcell, hmap, hN⟩ := HS.out
              have e46 := ext_trans h6 e4
              have HN4 := Lib.hid (hN.ext e46)
              have HOL := Lib.hid (ext_trans hold e46)
              have cD := keep e46 hcell
              have hsD : bo < W4.heap.size := Nat.lt_of_lt_of_le hsz e46.size
              have fD : W4.frozen? ⟨bo, 0, none⟩ = false := (e46.frozen (p := ⟨bo, 0, none⟩) hsz).trans hfr
              have HTOP : Hid (∀ p ∈ qs, newQ W4 (bo + 1) (fun b => wr.heap.size + 2 ≤ b) p) := fun p hp => NewR.ext (NewR.top (hN.rules p hp) (Nat.le_add_right _ _)) e46
              have N4 := Lib.hid (N6.out.ext e4)
              have hqs : qs.length = (kept (l.take k)).length := by
                have h5 : (qs.map (·.1)).length = qs.length := List.length_map _
                rw [hmap, List.length_take] at h5
                have h6 := (List.getElem?_eq_some_iff.1 (kept_take HLK.out).1).1
                omega
              have HQSL := Lib.hid hqs
              have HMP := Lib.hid hmap
              have HBIG : Hid (qs.length + 1 ≤ 2199023255488) := by
                show _ ≤ _
                have h6 := (List.getElem?_eq_some_iff.1 (kept_take HLK.out).1).1
                have := HKL.out
                omega
              have HLO : Hid (bo + 1 ≤ wr.heap.size + 2) := by show _ ≤ _; omega
              have HL4 : Hid (bo + 1 ≤ W4.heap.size) := by show _ ≤ _; omega
              have HSD := Lib.hid hsD
              have R4 := Lib.hid HN4.out.row
              clear hW4 hold hsz hfr hcell hmap hN OQ e4 e46 k0 k1 k2 h6 hqs hsD mk2
              go_wp2_with (at_builtin; go_loud (refine wpList_append_any rfl _ _ 55 rfl (bo + 1) 27 j0 (.agg #[.string ⟨#[]⟩, .slice none 0 0, .slice none 0 0]) 3 64 Try.underlying55 jj jj0 jj1 jj2 rfl (by decide) _ _ _ rfl (R4.out.alloc _) (some ⟨W4.heap.size, 0, none⟩) 1 1 (valsQ (q.1, (a6, q.2.1.2.1, c6), (b6, q.2.2.2.1, d6))) rfl (by intro h; cases h) rfl (cells3_at _ _ _ _ rfl) (flatQ_one' _) (by have := HBIG.out; unfold maxLen; omega) (by have := HBIG.out; omega) (size_alloc_le HL4.out) ?_); intro v7 w7 own7 q7; obtain ⟨g7, p7, rfl, hp7⟩ := own_formS own7 (Nat.succ_pos _); rw [← flatQ_snoc] at own7; obtain ⟨k7, f7, st⟩ := OutSt.push (q := (q.1, (a6, q.2.1.2.1, c6), (b6, q.2.2.2.1, d6))) (k := (kept (l.take k)).length) (rs := kept l) HOL.out (Nat.le_of_eq HBO.out.symm) HSD.out fD cD HMP.out HN4.out (kept_take HLK.out).1 HLO.out HTOP.out N4.out own7 q7; have st := Lib.hid st)
              go_roundw
              case rel => exact ⟨k + 1, by omega, by go_num, by rw [(kept_take HLK.out).2]; exact st.out⟩
              case measure => simp [intOf]; omega
          · obtain rfl : k = n := by omega
            have HS := Lib.hid hs
            obtain ⟨hold, hsz, hfr, qs, a5, c5, hcell, hmap, hN⟩ := HS.out
            have hge : ¬ (k : Int) < (k : Int) := by omega
            have zr := keep hold ZH.out
            have fr := (hold.frozen (p := ⟨w.heap.size + 1, 0, none⟩) HWR.out).trans FH.out
            clear hs
            go_wp2
            have S0 := World.cell?_setCell_same _ _ (.slice a5 qs.length c5) zr
            have E6 : Ext w (wr.setCell ⟨w.heap.size + 1, 0, none⟩ (.slice a5 qs.length c5)) := ext_set (ext_trans EW.out hold) (Nat.le_succ _) _
            have N6 : NewQs (wr.setCell ⟨w.heap.size + 1, 0, none⟩ (.slice a5 qs.length c5)) w.heap.size qs (.slice a5 qs.length c5) := (hN.set (by have := HWR.out; have := HBO.out; show w.heap.size + 1 < bo + 1; omega) _).mono (by have := HWR.out; have := HBO.out; omega)
            generalize wr.setCell ⟨w.heap.size + 1, 0, none⟩ (.slice a5 qs.length c5) = W6 at S0 E6 N6 ⊢
            refine bodyPost_ret (by simp [results, Try.results26, go_sem, S0]; try rfl) rfl ?_
            have hmap2 : qs.map (·.1) = kept l := by rw [hmap, List.take_of_length_le (by have := HLN.out; omega : l.length ≤ k)]; exact List.take_of_length_le (Nat.le_refl _)
            refine ⟨a5, qs.length, c5, qs, by rw [HQ2.out], rfl, by rw [HQ2.out]; exact hmap2, fun q hq => ?_, N6, E6⟩
            have h9 : q.1 ∈ rs := by rw [← HLM.out]; exact kept_mem (by rw [← hmap2]; exact List.mem_map.2 ⟨q, hq, rfl⟩)
            obtain ⟨i, hi⟩ := List.mem_iff_getElem?.1 h9
            obtain ⟨_, _, q', e', _, _, _, _, ok'⟩ := ruleIn_of HR.out hi
            rw [← e']
            exact RuleB.of ok'
      · obtain ⟨m, rfl⟩ : ∃ m : Nat, j = (m : Int) := ⟨j.toNat, by omega⟩
        clear hj1 hj
        obtain ⟨x, hx⟩ : ∃ x, rs[m]? = some x := ⟨_, List.getElem?_eq_getElem (by rw [HL.out]; omega)⟩
        obtain ⟨g, off, qx, rfl, rfl, m0, m1, m2, okx⟩ := ruleIn_of (HR.out.keep hb1) hx
        have HX := Lib.hid hx
        have MW0 := Lib.hid m0
        have MW1 := Lib.hid m1
        have MW2 := Lib.hid m2
        have OXW := Lib.hid okx
        have okx := okx.keep HE.out
        have m0 := keep HE.out m0
        have m1 := keep HE.out m1
        have m2 := keep HE.out m2
        have OX : Hid (RuleV wr qx.1 qx.2.1.1 qx.2.1.2.1 qx.2.1.2.2 qx.2.2.1 qx.2.2.2.1 qx.2.2.2.2) := okx
        have LM := Lib.hid (l_at HLM.out hx)
        have hmi : (m : Int) < (n : Int) := hj2
        obtain ⟨P1, hP1⟩ : ∃ b, plain qx.1 = b := ⟨_, rfl⟩
        have HP1 := Lib.hid hP1
        clear hx okx hj2 hP1
        cases P1 with
        | false =>
          have HQN : Hid (R = outD (pruneD m l)) := by
            show _ = _
            rw [HQ.out, show ((m : Int) + 1).toNat = m + 1 by omega, pruneD_not LM.out HP1.out]
          go_wp2_with (go_at_call 20; (with_reducible refine (c_dPlain qx.1 _ _ _ _ _ _ wr OX.out).mono ?_); rw [HP1.out]; rintro e w3 ⟨rfl, h3⟩)
          go_roundw
          case rel => exact ⟨(m : Int) - 1, l, rfl, by omega, by omega, HLM.out, fun i hi => LOW.out i (by omega), MKS.out.ext h3, ext_trans HE.out h3, by rw [HQN.out, show ((m : Int) - 1 + 1).toNat = m by omega]⟩
          case measure => simp [intOf] <;> omega
        | true =>
          obtain ⟨SC, hSC⟩ : ∃ s, s = scanD qx.1 m l 0 := ⟨_, rfl⟩
          have HST : Hid (R = outD (stepD m qx.1 l SC)) := by
            show _ = _
            rw [HQ.out, show ((m : Int) + 1).toNat = m + 1 by omega, pruneD_plain LM.out HP1.out, hSC]
          have HSC := Lib.hid hSC
          have hml : m < l.length := (List.getElem?_eq_some_iff.1 LM.out).1
          have HML := Lib.hid hml
          have hmf : mk l m = false := LOW.out m (Int.le_refl _)
          have HMF := Lib.hid hmf
          clear hSC HQ hml hmf
          go_wp2_with (go_at_call 20; (with_reducible refine (c_dPlain qx.1 _ _ _ _ _ _ wr OX.out).mono ?_); rw [HP1.out]; rintro e w3 ⟨rfl, h3⟩; have H3 := Lib.hid h3; clear h3)
          go_loopw [7] (fun v7 wj => ∃ (k : Nat) (gi : Bool), k ≤ n ∧ v7 = .int .i64 (k : Int) ∧ MarksAt wj gb n (fun i => if i = m then gi else mk l i) ∧ Ext w1 wj ∧ (gi = true → SC = .yes) ∧ (gi = false → SC = scanD qx.1 m (l.drop k) k)) (fun v7 _ => n - (intOf v7).toNat)
          case atStart =>
            refine ⟨0, false, by omega, rfl, (MKS.out.ext H3.out).congr fun i _ => ?_, ext_trans HE.out H3.out, by simp, fun _ => HSC.out⟩
            by_cases e : i = m
            · dsimp only; rw [if_pos e, e, HMF.out]
            · dsimp only; rw [if_neg e]
          case round =>
            obtain ⟨k, gi, hk, rfl, hmk, hE2, hye, hno⟩ := hrel
            clear H3
            have HMK := Lib.hid hmk
            have HE2 := Lib.hid hE2
            have x2 := keep hE2 XX.out
            have n2 : wr.cell? ⟨gb, m, none⟩ = some (.bool gi) := by
              have := hmk.at (i := m) (by omega)
              rw [if_pos rfl] at this
              exact this
            have HYE := Lib.hid hye
            have HNO := Lib.hid hno
            clear hmk hE2 hye hno
            by_cases hge : n ≤ k
            · have hlk : ¬ (k : Int) < (n : Int) := by omega
              clear n2
              cases gi with
              | true =>
                have HF : Hid (R = outD (pruneD m (l.set m (qx.1, true)))) := by
                  show _ = _
                  rw [HST.out, HYE.out rfl]
                  rfl
                go_wp2
                go_roundw
                case rel =>
                  refine ⟨(m : Int) - 1, l.set m (qx.1, true), rfl, by omega, by omega, set_map HLM.out HX.out, fun i hi => ?_, HMK.out.congr fun i _ => ?_, HE2.out, by rw [HF.out, show ((m : Int) - 1 + 1).toNat = m by omega]⟩
                  · rw [mk_set_ne _ (by omega)]; exact LOW.out i (by omega)
                  · by_cases e : i = m
                    · dsimp only; rw [if_pos e, e, mk_set _ HML.out]
                    · dsimp only; rw [if_neg e, mk_set_ne _ e]
                case measure => simp [intOf] <;> omega
              | false =>
                have HF : Hid (R = outD (pruneD m l)) := by
                  show _ = _
                  rw [HST.out, HNO.out rfl, List.drop_of_length_le (by have h5 : (l.map (·.1)).length = l.length := List.length_map _; rw [HLM.out] at h5; have := HL.out; omega)]
                  rfl
                go_wp2
                go_roundw
                case rel =>
                  refine ⟨(m : Int) - 1, l, rfl, by omega, by omega, HLM.out, fun i hi => LOW.out i (by omega), HMK.out.congr fun i _ => ?_, HE2.out, by rw [HF.out, show ((m : Int) - 1 + 1).toNat = m by omega]⟩
                  by_cases e : i = m
                  · dsimp only; rw [if_pos e, e, HMF.out]
                  · dsimp only; rw [if_neg e]
                case measure => simp [intOf] <;> omega
            · have hki : (k : Int) < (n : Int) := by omega
              cases gi with
              | true =>
                have HF : Hid (R = outD (pruneD m (l.set m (qx.1, true)))) := by
                  show _ = _
                  rw [HST.out, HYE.out rfl]
                  rfl
                go_wp2
                go_roundw
                case rel =>
                  refine ⟨(m : Int) - 1, l.set m (qx.1, true), rfl, by omega, by omega, set_map HLM.out HX.out, fun i hi => ?_, HMK.out.congr fun i _ => ?_, HE2.out, by rw [HF.out, show ((m : Int) - 1 + 1).toNat = m by omega]⟩
                  · rw [mk_set_ne _ (by omega)]; exact LOW.out i (by omega)
                  · by_cases e : i = m
                    · dsimp only; rw [if_pos e, e, mk_set _ HML.out]
                    · dsimp only; rw [if_neg e, mk_set_ne _ e]
                case measure => simp [intOf] <;> omega
              | false =>
                have hs0 : SC = scanD qx.1 m (l.drop k) k := HNO.out rfl
                obtain ⟨s, hs⟩ : ∃ x, rs[k]? = some x := ⟨_, List.getElem?_eq_getElem (by rw [HL.out]; omega)⟩
                obtain ⟨g2, off2, qs_, rfl, e2_, k0, k1, k2, oks⟩ := ruleIn_of (((HR.out.keep hb1).keep HE2.out)) hs
                cases e2_
                have OS : Hid (RuleV wr qs_.1 qs_.2.1.1 qs_.2.1.2.1 qs_.2.1.2.2 qs_.2.2.1 qs_.2.2.2.1 qs_.2.2.2.2) := oks
                obtain ⟨G, hG⟩ : ∃ b, mk l k = b := ⟨_, rfl⟩
                have LK := l_at HLM.out hs
                rw [hG] at LK
                have HDR : Hid (l.drop k = (qs_.1, G) :: l.drop (k + 1)) := drop_at LK
                have HS0 := Lib.hid hs0
                obtain ⟨P2, hP2⟩ : ∃ b, plain qs_.1 = b := ⟨_, rfl⟩
                have HP2 := Lib.hid hP2
                obtain ⟨D, hD⟩ : ∃ b : Bool, ((k : Int) == (m : Int)) = b := ⟨_, rfl⟩
                have HDK : Hid (D = true ↔ k = m) := by show _ ↔ _; rw [← hD, beq_iff_eq]; omega
                have mk2 : D = false → wr.cell? ⟨gb, k, none⟩ = some (.bool G) := fun hd => by
                  have := HMK.out.at (i := k) (by omega)
                  rw [if_neg (fun e => by rw [HDK.out.2 e] at hd; cases hd), hG] at this
                  exact this
                clear hs hs0 oks hG LK hP2
                go_upto_region 12 with (fail)
                clear n2
                go_cut [69] (fun v69 wc => ∃ C : Bool, v69 = .bool C ∧ C = (D || (G || !P2)) ∧ Ext wr wc)
                case first =>
                  cases D with
                  | true =>
                    go_wp2
                    go_meet
                    exact ⟨_, rfl, rfl, Below.refl _ _⟩
                  | false =>
                    have mk3 := mk2 rfl
                    cases G with
                    | true =>
                      go_wp2
                      go_meet
                      exact ⟨_, rfl, rfl, Below.refl _ _⟩
                    | false =>
                      go_wp2_with (go_at_call 20; (with_reducible refine (c_dPlain qs_.1 _ _ _ _ _ _ wr OS.out).mono ?_); rw [HP2.out]; rintro e w4 ⟨rfl, h4⟩)
                      go_meet
                      exact ⟨_, rfl, rfl, h4⟩
                case rest =>
                  obtain ⟨C, rfl, hC, e3⟩ := hcut
                  have HCC := Lib.hid hC
                  have E3 := Lib.hid (ext_trans HE2.out e3)
                  clear hC hD
                  cases C with
                  | true =>
                    have hskip : SC = scanD qx.1 m (l.drop (k + 1)) (k + 1) := by
                      rw [HS0.out, HDR.out, scanD]
                      refine if_pos ?_
                      have hc := HCC.out
                      rw [HP2.out]
                      cases D with
                      | true => exact .inl (HDK.out.1 rfl)
                      | false =>
                        cases G with
                        | true => exact .inr (.inl rfl)
                        | false =>
                          cases P2 with
                          | false => exact .inr (.inr rfl)
                          | true => cases hc
                    have HSK := Lib.hid hskip
                    clear hskip
                    go_wp2
                    go_roundw
                    case rel => exact ⟨k + 1, false, by omega, by go_num, HMK.out.ext e3, E3.out, by simp, fun _ => HSK.out⟩
                    case measure => simp [intOf]; omega
                  | false =>
                    have hall : D = false ∧ G = false ∧ P2 = true := by
                      have hc := HCC.out
                      cases D with
                      | true => cases hc
                      | false =>
                        cases G with
                        | true => cases hc
                        | false =>
                          cases P2 with
                          | false => cases hc
                          | true => exact ⟨rfl, rfl, rfl⟩
                    obtain ⟨rfl, rfl, rfl⟩ := hall
                    have GO : Hid (SC = if (laid qx.1 qs_.1).1 ≠ 0 then .err (laid qx.1 qs_.1).1 else if (laid qx.1 qs_.1).2.isSome = true then .yes else scanD qx.1 m (l.drop (k + 1)) (k + 1)) := by
                      show _ = _
                      rw [HS0.out, HDR.out, scanD]
                      refine if_neg ?_
                      rw [HP2.out]
                      rintro (h | h | h)
                      · have := HDK.out.2 h
                        cases this
                      · cases h
                      · cases h
                    obtain ⟨X, hX⟩ : ∃ x, laid qx.1 qs_.1 = x := ⟨_, rfl⟩
                    have LX := Lib.hid hX
                    rw [hX] at GO
                    obtain ⟨X1, hX1⟩ : ∃ x, X.1 = x := ⟨_, rfl⟩
                    obtain ⟨B, hB⟩ : ∃ x, X.2.isSome = x := ⟨_, rfl⟩
                    rw [hX1, hB] at GO
                    have LX1 := Lib.hid hX1
                    have LB := Lib.hid hB
                    have kx := keep E3.out XX.out
                    have k0 := keep e3 k0
                    have k1 := keep e3 k1
                    have k2 := keep e3 k2
                    have m0 := keep (ext_trans HE2.out e3) (show w1.cell? _ = _ from MW0.out)
                    have m1 := keep (ext_trans HE2.out e3) (show w1.cell? _ = _ from MW1.out)
                    have m2 := keep (ext_trans HE2.out e3) (show w1.cell? _ = _ from MW2.out)
                    have sp : w.heap.size < wc.heap.size := World.block_lt_of_cell? wc ⟨w.heap.size, 0, none⟩ kx
                    have sg : g < wc.heap.size := World.block_lt_of_cell? wc ⟨g, _, none⟩ m0
                    have OXC : Hid (RuleV wc qx.1 qx.2.1.1 qx.2.1.2.1 qx.2.1.2.2 qx.2.2.1 qx.2.2.2.1 qx.2.2.2.2) := RuleV.keep (ext_trans HE2.out e3) OXW.out
                    have OSC : Hid (RuleV wc qs_.1 qs_.2.1.1 qs_.2.1.2.1 qs_.2.1.2.2 qs_.2.2.1 qs_.2.2.2.1 qs_.2.2.2.2) := OS.out.keep e3
                    have hd3 : Ext wc wc.drew := ext_drew (Below.refl _ _)
                    have MKC := Lib.hid (HMK.out.ext e3)
                    clear hX hX1 hB HCC HDK mk2 e3
                    go_upto_region 13 with (fail)
                    go_cut [8, 9] (fun v8 v9 wd => v8 = .bool B ∧ v9 = .int .i64 X1 ∧ Ext wc wd)
                    case first =>
                      go_region_held3 (fun w' => ∀ b o, b < wc.heap.size → w'.cell? ⟨b, o, none⟩ = wc.cell? ⟨b, o, none⟩)
                        ((intro bb oo hbb; first | rfl | exact g6.cell (p := ⟨bb, oo, none⟩) hbb))
                        (first
                          | (go_at_call 21; (with_reducible refine (c_dWithin qx.1 qs_.1 _ _ _ _ _ _ _ _ _ _ _ _ _ (OXC.out.keep hd3) (OSC.out.keep hd3)).mono ?_); rw [LX.out, LX1.out, LB.out]; rintro e w6 ⟨rfl, h6⟩; have g6 := ext_trans hd3 h6)
                          | fail)
                      all_goals
                        go_wp2
                        go_meet
                        exact ⟨rfl, rfl, g6⟩
                    case rest =>
                      obtain ⟨rfl, rfl, e6⟩ := hcut
                      have TE := Lib.hid (ext_trans E3.out e6)
                      have MKD := Lib.hid (MKC.out.ext e6)
                      clear e6
                      by_cases hx1 : X1 = 0
                      · subst hx1
                        have n3 : wc.cell? ⟨gb, m, none⟩ = some (.bool false) := by
                          have := MKD.out.at (i := m) (by omega)
                          rw [if_pos rfl] at this
                          exact this
                        have n4 : wc.frozen? ⟨gb, m, none⟩ = false := World.rowIs.frozen MKD.out m
                        have HSB : Hid ((B = true → SC = .yes) ∧ (B = false → SC = scanD qx.1 m (l.drop (k + 1)) (k + 1))) := by
                          show _ ∧ _
                          rw [GO.out]
                          cases B with
                          | true => exact ⟨fun _ => rfl, fun h => by cases h⟩
                          | false => exact ⟨fun h => (by cases h), fun _ => rfl⟩
                        go_wp2
                        go_roundw
                        case rel =>
                          refine ⟨k + 1, B, by omega, by go_num, MKD.out.put m B (fun j _ => ?_), ext_set TE.out HGB.out _, HSB.out.1, HSB.out.2⟩
                          by_cases e : j = m
                          · rw [if_pos e, if_pos e]
                          · rw [if_neg e, if_neg e, if_neg e]
                        case measure => simp [intOf]; omega
                      · have t3 : (X1 != 0) = true := by simpa using hx1
                        have zr := keep TE.out ZZ.out
                        have fr := (TE.out.frozen (p := ⟨w.heap.size + 1, 0, none⟩) hz1).trans FF.out
                        have HX1 := Lib.hid hx1
                        clear hx1
                        go_wp2
                        have S0 := World.cell?_setCell_same _ _ (.slice none 0 0) zr
                        have E6 : Ext w (wc.setCell ⟨w.heap.size + 1, 0, none⟩ (.slice none 0 0)) := ext_set (ext_trans hb1 TE.out) (Nat.le_succ _) _
                        generalize wc.setCell ⟨w.heap.size + 1, 0, none⟩ (.slice none 0 0) = W6 at S0 E6 ⊢
                        refine bodyPost_ret (by simp [results, Try.results26, go_sem, S0]; try rfl) rfl ?_
                        exact PrunePost.none (by rw [HST.out, GO.out, if_pos HX1.out]; rfl) E6
  · have t1 : (M != 0) = true := by simpa using h0
    have H0 := Lib.hid h0
    clear h0
    go_wp2
    have S0 := World.cell?_setCell_same _ _ (.slice none 0 0) z0
    have E6 : Ext w (w1.setCell ⟨w.heap.size + 1, 0, none⟩ (.slice none 0 0)) := ext_set hb1 (Nat.le_succ _) _
    generalize w1.setCell ⟨w.heap.size + 1, 0, none⟩ (.slice none 0 0) = W6 at S0 E6 ⊢
    refine bodyPost_ret (by simp [results, Try.results26, go_sem, S0]; try rfl) rfl ?_
    exact PrunePost.none (by rw [FIN.out, prune, if_pos (by rw [HM.out]; exact H0.out), HM.out]) E6
end Go.Proofs.Ytcphjfggjjonpaa
