/- The document's trie: the walk of Build. -/
import Derived.Test.YthjpfplebbnbpaaGreatRPut
import Derived.Test.YthjpfplebbnbpaaGreatBuild
import Derived.Test.YthjpfplebbnbpaaGreatCur4
namespace Go.Proofs.YthjpfplebbnbpaaGreat
open Go.ChangeShapes Go.WideShapes Go.ChangeAt Go.RowKit
/-- The document's ways. -/
def refWays (os : List Int) (rs : List (List ByteArray)) : List (List ByteArray) := rs.foldl (fun l r => putRow l (projM os r)) []
theorem refWays_snoc (os : List Int) (rs : List (List ByteArray)) (r : List ByteArray) : refWays os (rs ++ [r]) = putRow (refWays os rs) (projM os r) := by simp [refWays]
theorem refWays_facts (os : List Int) (rs : List (List ByteArray)) : Rising (refWays os rs) ∧ (∀ x, x ∈ refWays os rs ↔ ∃ r ∈ rs, projM os r = x) ∧ (refWays os rs).length ≤ rs.length := by
  refine snoc_ind (P := fun rs => Rising (refWays os rs) ∧ (∀ x, x ∈ refWays os rs ↔ ∃ r ∈ rs, projM os r = x) ∧ (refWays os rs).length ≤ rs.length) ⟨List.Pairwise.nil, fun x => by simp [refWays], Nat.le_refl _⟩ (fun l r ⟨h1, h2, h3⟩ => ?_) rs
  rw [refWays_snoc]
  refine ⟨putRow_rising h1 _, fun x => ?_, ?_⟩
  · rw [putRow_mem h1, h2]
    constructor
    · rintro (rfl | ⟨y, hy, e⟩)
      · exact ⟨r, by simp, rfl⟩
      · exact ⟨y, by simp [hy], e⟩
    · rintro ⟨y, hy, e⟩
      rcases List.mem_append.1 hy with hy | hy
      · exact .inr ⟨y, hy, e⟩
      · rw [List.mem_singleton] at hy
        subst hy
        exact .inl e.symm
  · have := putRow_len (refWays os l) (projM os r)
    rw [List.length_append, List.length_singleton]
    omega
theorem refWays_len {os : List Int} {rs : List (List ByteArray)} {x : List ByteArray} (h : x ∈ refWays os rs) : x.length = os.length := by
  obtain ⟨r, _, rfl⟩ := ((refWays_facts os rs).2.1 x).1 h
  exact projM_len os r
/-- Rising lists with the same members are the same. -/
theorem Rising.same : ∀ {a b : List (List ByteArray)}, Rising a → Rising b → (∀ x, x ∈ a ↔ x ∈ b) → a = b
  | [], [], _, _, _ => rfl
  | [], y :: b, _, _, h => by
    have := (h y).2 (by simp)
    simp at this
  | x :: a, [], _, _, h => by
    have := (h x).1 (by simp)
    simp at this
  | x :: a, y :: b, ha, hb, h => by
    obtain ⟨ha1, ha2⟩ := List.pairwise_cons.1 ha
    obtain ⟨hb1, hb2⟩ := List.pairwise_cons.1 hb
    have e : x = y := by
      rcases List.mem_cons.1 ((h x).1 (by simp)) with e | hx
      · exact e
      · rcases List.mem_cons.1 ((h y).2 (by simp)) with e | hy
        · exact e.symm
        · have h1 := hb1 x hx
          have h2 := ha1 y hy
          have h3 := cmpRow_swap x y
          omega
    subst e
    have hn : ∀ z ∈ a, z ≠ x := fun z hz e => by
      have := ha1 z hz
      rw [e, (cmpRow_zero x x).2 rfl] at this
      omega
    have hm : ∀ z ∈ b, z ≠ x := fun z hz e => by
      have := hb1 z hz
      rw [e, (cmpRow_zero x x).2 rfl] at this
      omega
    rw [Rising.same ha2 hb2 (fun z => ⟨fun hz => by
      rcases List.mem_cons.1 ((h z).1 (by simp [hz])) with e | h1
      · exact absurd e (hn z hz)
      · exact h1, fun hz => by
      rcases List.mem_cons.1 ((h z).2 (by simp [hz])) with e | h1
      · exact absurd e (hm z hz)
      · exact h1⟩)]
def RBuildPost (ar : Nat) (os : List Int) (rs : List (List ByteArray)) (w : World) (e : Ending) (w' : World) : Prop :=
  (¬ orderOk ar os ∧ e = .returned (.tuple #[.pointer none, .int .i64 2]) ∧ Ext w w') ∨
  (orderOk ar os ∧ ∃ pt lo, e = .returned (.tuple #[.pointer (some ⟨pt, 0, none⟩), .int .i64 0]) ∧ w.heap.size ≤ pt ∧ RTrie w' lo pt os.length (refWays os rs) ∧ lo ≤ w'.heap.size ∧ Ext w w')
set_option maxRecDepth 100000 in
set_option maxHeartbeats 4000000 in
theorem c_rbuild (ar : Nat) (rs : List (List ByteArray)) (ra : Option Addr) (rn rc : Nat) (os : List Int) (ao : Option Addr) (d co : Nat) (w : World) (hr : ItemsAt w ra rn rs) (hra : ∀ r ∈ rs, r.length = ar) (hrn : rn ≤ 65536) (ho : IntsAt w ao d os) (hd : d ≤ 64 ∨ ¬ orderOk ar os) :
    Calls Tryz.prog 21 #[.int .i64 (ar : Nat), .slice ra rn rc, .slice ao d co] w (RBuildPost ar os rs w) := by
  have HR := Lib.hid hr
  have HRA := Lib.hid hra
  have HO := Lib.hid ho
  have HD := Lib.hid hd
  have hdm : d ≤ 9223372036854775807 := ho.1
  have hol : os.length = d := ho.2.1
  have HOL := Lib.hid hol
  clear hr hra ho hol hd
  go_enter Tryz.func21, Tryz.ntmps21
  go_wp2
  go_loopw [8] (fun v wj => ∃ k : Nat, k ≤ d ∧ v = .int .i64 (k : Int) ∧ Ext w wj ∧ ∀ (i : Nat) (c : Int), i < k → os[i]? = some c → 0 ≤ c ∧ c < (ar : Int) ∧ ¬ c ∈ os.take i) (fun v _ => d - (intOf v).toNat)
  case atStart => exact ⟨0, by omega, rfl, Below.refl _ _, fun i c hi => absurd hi (Nat.not_lt_zero _)⟩
  case round =>
    obtain ⟨k, hk, rfl, hw, hq⟩ := hrel
    have HQ := Lib.hid hq
    have HW := Lib.hid hw
    clear hq
    by_cases hlt : k < d
    · have hki : (k : Int) < (d : Int) := by omega
      obtain ⟨c, b1, o1, hx, rfl, h1⟩ := (HO.out.keep hw).2.at hlt
      have HX := Lib.hid hx
      have g1 : wr.cell? ⟨b1, o1 + k, none⟩ = some (.int .i64 c) := by simpa [intAt] using h1
      have BAD : Hid (¬ (0 ≤ c ∧ c < (ar : Int) ∧ ¬ c ∈ os.take k) → ∀ W, Ext w W → RBuildPost ar os rs w (.returned (.tuple #[.pointer none, .int .i64 2])) W) := fun hb W hW => .inl ⟨fun hok => hb (hok k c HX.out), rfl, hW⟩
      have G1 := Lib.hid g1
      clear hx h1 hw
      by_cases hc0 : c < 0
      · have BD := Lib.hid (BAD.out (fun h => by omega))
        clear BAD
        go_wp2
        go_ret2
        exact BD.out _ HW.out
      · by_cases hca : c < (ar : Int)
        · have hca2 : ¬ (ar : Int) ≤ c := by omega
          go_wp2
          obtain ⟨wo, rfl⟩ : ∃ x : World, x = wr := ⟨_, rfl⟩
          clear g1
          go_loopw [9] (fun v wj => ∃ j : Nat, j ≤ k ∧ v = .int .i64 (j : Int) ∧ Ext wo wj ∧ ¬ c ∈ os.take j) (fun v _ => k - (intOf v).toNat)
          case atStart => exact ⟨0, by omega, rfl, Below.refl _ _, by simp⟩
          case round =>
            obtain ⟨j, hj, rfl, hw, hn⟩ := hrel
            have HWj := Lib.hid hw
            have HNj := Lib.hid hn
            have g1 := keep hw G1.out
            clear hn
            by_cases hlk : j < k
            · have hjk : (j : Int) < (k : Int) := by omega
              have hjd : (j : Int) < (d : Int) := by omega
              obtain ⟨y, b2, o2, hy, e, h2⟩ := ((HO.out.keep HW.out).keep hw).2.at (i := j) (by omega)
              cases e
              have g2 : wr.cell? ⟨b1, o1 + j, none⟩ = some (.int .i64 y) := by simpa [intAt] using h2
              have HY := Lib.hid hy
              clear hy h2 hw
              by_cases hyc : y = c
              · subst hyc
                have BD := Lib.hid (BAD.out (fun h => h.2.2 (List.mem_iff_getElem?.2 ⟨j, by rw [List.getElem?_take, if_pos hlk]; exact HY.out⟩)))
                have hb : (y == y) = true := by simp
                go_wp2
                go_quiet (fail)
                go_wp2
                go_ret2
                exact BD.out _ (ext_drewN (ext_trans HW.out HWj.out) _)
              · have hb : (y == c) = false := by simpa using hyc
                have NX : Hid (¬ c ∈ os.take (j + 1)) := by
                  show ¬ _
                  rw [take_at HY.out, List.mem_append, List.mem_singleton]
                  rintro (h | h)
                  · exact HNj.out h
                  · exact hyc h.symm
                clear hyc
                go_wp2
                go_quiet (fail)
                go_wp2
                go_roundw
                case rel => exact ⟨j + 1, by omega, by go_num, ext_drewN HWj.out _, NX.out⟩
                case measure => simp [intOf]; omega
            · obtain rfl : j = k := by omega
              have hge : ¬ (j : Int) < (j : Int) := by omega
              have NX : Hid (∀ (i : Nat) (c : Int), i < j + 1 → os[i]? = some c → 0 ≤ c ∧ c < (ar : Int) ∧ ¬ c ∈ os.take i) := fun i c' hi hc' => by
                rcases Nat.lt_or_ge i j with h1 | h1
                · exact HQ.out i c' h1 hc'
                · obtain rfl : i = j := by omega
                  have := HX.out.symm.trans hc'
                  cases this
                  exact ⟨by omega, hca, HNj.out⟩
              go_wp2
              go_roundw
              case rel => exact ⟨j + 1, by omega, by go_num, ext_trans HW.out HWj.out, NX.out⟩
              case measure => simp [intOf]; omega
        · have hca2 : (ar : Int) ≤ c := by omega
          have BD := Lib.hid (BAD.out (fun h => by omega))
          clear BAD
          go_wp2
          go_ret2
          exact BD.out _ HW.out
    · obtain rfl : k = d := by omega
      have hge : ¬ (k : Int) < (k : Int) := by omega
      have HOK : Hid (orderOk ar os) := fun i c hc => HQ.out i c (by have := (List.getElem?_eq_some_iff.1 hc).1; have := HOL.out; omega) hc
      have hd64 : k ≤ 64 := by
        rcases HD.out with h | h
        · exact h
        · exact absurd HOK.out h
      clear hw
      go_upto_region 12 with (fail)
      refine wp_gen (fun W1 hW1 => ?_)
      have hE1 : Ext w W1 := by rw [hW1]; exact ext_alloc HW.out _
      have hpt : w.heap.size ≤ wr.heap.size := HW.out.size
      have RT : Hid (RTrie W1 (wr.heap.size + 1) wr.heap.size k []) := by
        refine ⟨Nat.lt_succ_self _, by rw [hW1]; go_simp, by rw [hW1]; go_simp, none, 0, [], by rw [hW1]; go_simp, World.ownsRow_nil _ _ _ _, rfl, fun i r v h => by simp at h⟩
      have hz : Hid (wr.heap.size + 1 ≤ W1.heap.size) := by show _ ≤ _; rw [hW1]; simp
      have E1h := Lib.hid hE1
      clear hW1 hE1
      have HRN : Hid (rn = rs.length) := HR.out.2.1.symm
      obtain ⟨pt, hptt⟩ : ∃ pt, wr.heap.size = pt := ⟨_, rfl⟩
      rw [hptt] at RT hz hpt ⊢
      obtain ⟨d, rfl⟩ : ∃ d : Nat, d = k := ⟨_, rfl⟩
      clear HW hptt HQ
      go_wp2
      go_loopw [11] (fun v wj => ∃ i : Nat, i ≤ rn ∧ v = .int .i64 (i : Int) ∧ RTrie wj (pt + 1) pt d (refWays os (rs.take i)) ∧ ButS (fun b => b = pt ∨ pt + 1 ≤ b) W1 wj) (fun v _ => rn - (intOf v).toNat)
      case atStart => exact ⟨0, Nat.zero_le _, rfl, RT.out, ButS.refl _ _⟩
      case round =>
        obtain ⟨i, hi, rfl, hrt, hbt⟩ := hrel
        have RTi := Lib.hid hrt
        have BT := Lib.hid hbt
        have hex : Ext w wr := ext_of_but E1h.out hbt (fun b hb hh => by omega)
        have EX := Lib.hid hex
        obtain ⟨fa, fb, fc⟩ := refWays_facts os (rs.take i)
        have FA := Lib.hid fa
        have hlow : pt + 1 ≤ wr.heap.size := Nat.le_trans hz.out hbt.size
        have HLOW := Lib.hid hlow
        have fcl : (refWays os (rs.take i)).length ≤ i := by rw [List.length_take] at fc; omega
        by_cases hlt : i < rn
        · have hlti : (i : Int) < (rn : Int) := by omega
          obtain ⟨r, b1, o1, hx, rfl, a5, n5, c5, g1, g2⟩ := (HR.out.keep hex).2.at hlt
          have g1 : wr.cell? ⟨b1, o1 + i, none⟩ = some (.slice a5 n5 c5) := by simpa using g1
          have G1 := Lib.hid g1
          have G2 := Lib.hid g2
          have hrl := HRA.out r (List.mem_of_getElem? hx)
          have hr5 : r.length = n5 := g2.2.1
          have ST : Hid (refWays os (rs.take (i + 1)) = putRow (refWays os (rs.take i)) (projM os r)) := by show _ = _; rw [take_at hx, refWays_snoc]
          clear hrt hbt hex fa fb fc hx g1 g2 hlow
          go_wp2
          obtain ⟨wo, rfl⟩ : ∃ x : World, x = wr := ⟨_, rfl⟩
          go_loopw [12, 13] (fun v12 v13 wj => ∃ q : Nat, q ≤ d ∧ v13 = .int .i64 (q : Int) ∧ wj.ownsRow wo.heap.size 9 1 v12 q ((projM (os.take q) r).map Value.string) ∧ Ext wo wj) (fun _ v13 _ => d - (intOf v13).toNat)
          case atStart => exact ⟨0, Nat.zero_le _, rfl, World.ownsRow_nil _ _ _ _, Below.refl _ _⟩
          case round =>
            obtain ⟨q, hq, rfl, hown, hex⟩ := hrel
            have OK9 := Lib.hid hown
            have EX9 := Lib.hid hex
            obtain ⟨a8, c8, rfl, _⟩ := own_form hown
            by_cases hlk : q < d
            · have hki : (q : Int) < (d : Int) := by omega
              obtain ⟨c, b2, o2, hc, rfl, h1⟩ := ((HO.out.keep EX.out).keep hex).2.at hlk
              have hcv := HOK.out q c hc
              obtain ⟨m, rfl⟩ : ∃ m : Nat, c = (m : Int) := ⟨c.toNat, by omega⟩
              have g3 : wr.cell? ⟨b2, o2 + q, none⟩ = some (.int .i64 (m : Int)) := by simpa [intAt] using h1
              obtain ⟨t, b3, o3, ht, rfl, h2⟩ := (G2.out.keep hex).2.at (i := m) (by omega)
              have g4 : wr.cell? ⟨b3, o3 + m, none⟩ = some (.string t) := by simpa [strAt] using h2
              have g5 := keep hex G1.out
              have PS : Hid (projM (os.take (q + 1)) r = projM (os.take q) r ++ [t]) := projM_snoc hc r (by simpa using ht)
              have hmn : (m : Int) < (n5 : Int) := by omega
              have dr := ext_drew (Below.refl _ wr)
              have d1 := keep dr g3
              have d2 := keep dr g4
              have d3 := keep dr g5
              have OW7 : Hid (wr.drew.ownsRow wo.heap.size 9 1 (.slice a8 q c8) q ((projM (os.take q) r).map Value.string)) := up_ext hown dr
              have hzz : Hid (wo.heap.size ≤ wr.drew.heap.size) := hex.size
              have hkm : q ≤ 1000000 := by omega
              clear hc h1 ht h2 hown hex g3 g4 g5 dr hcv
              go_wp2
              go_region_law (first
                | (refine step_push_str wr.drew t wo.heap.size a8 q c8 (projM (os.take q) r) OW7.out hkm hzz.out (by rfl) _ _ (by rfl) (by rfl) (by rfl) ?_; intro g6 c6 w6 p1 p2; have P1 := Lib.hid p1; have P2 := Lib.hid p2; clear p1 p2)
                | fail)
              all_goals
                go_wp2
                go_roundw
                case rel =>
                  refine ⟨q + 1, by omega, by go_num, ?_, ?_⟩
                  · rw [PS.out]
                    exact P1.out
                  · exact ext_ownB (ext_alloc (ext_drew EX9.out) _) P2.out (fun g e => (OW7.out.lt g e).1)
                case measure => simp [intOf]; omega
            · obtain rfl : q = d := by omega
              have hge : ¬ (q : Int) < (q : Int) := by omega
              have ht : os.take q = os := List.take_of_length_le (by have := HOL.out; omega)
              rw [ht] at hown
              have PT : Hid (Calls Tryz.prog 57 #[.pointer (some ⟨pt, 0, none⟩), .slice a8 q c8] wr (RPutPost (pt + 1) pt q (refWays os (rs.take i)) (projM os r) wr)) := by
                have e5 : (projM os r).length = q := by rw [projM_len, HOL.out]
                have := c_rput (pt + 1) pt q (refWays os (rs.take i)) (projM os r) a8 c8 wr (RTi.out.ext hex) FA.out (fun x hx => by rw [refWays_len hx, projM_len]) (by rw [e5]; exact own_base hown HLOW.out) (by omega) (Nat.le_trans HLOW.out hex.size)
                rwa [e5] at this
              clear hown hex ht
              go_wp2_with (go_at_call 57; (with_reducible refine PT.out.mono ?_); rintro e w3 ⟨rfl, r3, b3⟩)
              go_roundw
              case rel => exact ⟨i + 1, by omega, by go_num, by rw [ST.out]; exact r3, (BT.out.ext EX9.out).trans (b3.mono fun b _ h => h)⟩
              case measure => simp [intOf]; omega
        · obtain rfl : i = rn := by omega
          have hge : ¬ (i : Int) < (i : Int) := by omega
          have ht : rs.take i = rs := List.take_of_length_le (by have := HRN.out; omega)
          rw [ht] at hrt
          have FIN : Hid (RBuildPost ar os rs w (.returned (.tuple #[.pointer (some ⟨pt, 0, none⟩), .int .i64 0])) wr) := .inr ⟨HOK.out, pt, pt + 1, rfl, hpt, by rw [HOL.out]; exact hrt, hlow, hex⟩
          clear hrt hbt hex fa fb fc ht
          go_wp2
          go_ret2
          exact FIN.out
end Go.Proofs.YthjpfplebbnbpaaGreat
