/- The walk of the trie's find. -/
import Derived.Test.YthjpfplebbnbpaaGreatSeg
namespace Go.Proofs.YthjpfplebbnbpaaGreat
open Go.ChangeShapes Go.WideShapes Go.ChangeAt Go.RowKit
/-- The first i constants of a beginning have been met: through place p of the level ahead go the ways A to B. -/
structure FindSt (ways : List (List ByteArray)) (b : List ByteArray) (i p A B : Nat) : Prop where
  seg : Seg ways i A B
  lt : A < B
  pre : (wayAt ways A).take i = b.take i
  all : ∀ m, m < ways.length → (wayAt ways m).take i = b.take i → A ≤ m ∧ m < B
  zero : i = 0 → p = 0 ∧ A = 0 ∧ B = ways.length
  pos : 0 < i → p < wid ways (i - 1) ways.length ∧ A = st ways (i - 1) p ∧ B = st ways (i - 1) (p + 1)
theorem FindSt.start {ways : List (List ByteArray)} (b : List ByteArray) (h : 0 < ways.length) : FindSt ways b 0 0 0 ways.length := ⟨seg_root ways, h, rfl, fun _ hm _ => ⟨Nat.zero_le _, hm⟩, fun _ => ⟨rfl, rfl, rfl⟩, fun h => absurd h (Nat.lt_irrefl _)⟩
theorem FindSt.pre_at {ways : List (List ByteArray)} {b : List ByteArray} {i p A B : Nat} (h : FindSt ways b i p A B) {m : Nat} (h1 : A ≤ m) (h2 : m < B) : (wayAt ways m).take i = b.take i := (h.seg.same m h1 h2).trans h.pre
theorem FindSt.yes {d : Nat} {ways : List (List ByteArray)} {b : List ByteArray} {i p A B r : Nat} {x : ByteArray} (hw : Ways d ways) (h : FindSt ways b i p A B) (hi : i < d) (hx : b[i]? = some x) (h1 : wid ways i A ≤ r) (h2 : r < wid ways i B) (hk : keyAt ways i (st ways i r) = x) : FindSt ways b (i + 1) r (st ways i r) (st ways i (r + 1)) := by
  obtain ⟨a1, a2, a3⟩ := h.seg.place h1 h2
  have hs := st_spec ways i r a3
  have hp : (wayAt ways (st ways i r)).take (i + 1) = b.take (i + 1) := by
    rw [take_key hw hs.1 hi, take_at hx, h.pre_at a1 a2, hk]
  refine ⟨seg_below ways i r a3, st_lt ways i (Nat.lt_succ_self r) a3, hp, fun m hm he => ?_, fun h => absurd h (Nat.succ_ne_zero i), fun _ => ⟨a3, rfl, rfl⟩⟩
  have e := (hw.nd_iff (i := i) hm hs.1).1 (he.trans hp.symm)
  rw [nd_st ways i r a3] at e
  obtain ⟨_, _, b3, b4⟩ := nd_spec ways i m hm
  rw [e] at b3 b4
  exact ⟨b3, b4⟩
theorem FindSt.no {d : Nat} {ways : List (List ByteArray)} {b : List ByteArray} {i p A B : Nat} {x : ByteArray} (hw : Ways d ways) (h : FindSt ways b i p A B) (hi : i < d) (hx : b[i]? = some x) (hn : skP (keysM ways i ways.length) (wid ways i A) (wid ways i B) x < wid ways i B → keyAt ways i (st ways i (skP (keysM ways i ways.length) (wid ways i A) (wid ways i B) x)) ≠ x) : ∀ m, m < ways.length → (wayAt ways m).take (i + 1) ≠ b.take (i + 1) := by
  intro m hm he
  obtain ⟨a1, a2⟩ := h.all m hm (take_down he (Nat.le_succ i))
  rw [take_key hw hm hi, take_at hx] at he
  have hk : keyAt ways i m = x := by simpa using (List.append_inj' he rfl).2
  have hs := (h.seg.seek hw hi x).2.2 m a1 a2 hk
  obtain ⟨_, n2⟩ := h.seg.ndIn a1 a2
  have kn := key_nd hw hm hi
  refine hn (by omega) ?_
  rw [hs, kn, hk]
/-- What find tells. -/
def FindPost (d : Nat) (ways : List (List ByteArray)) (b : List ByteArray) (w : World) (e : Ending) (w' : World) : Prop := Ext w w' ∧
  ((∃ p A B, e = .returned (.tuple #[.int .i64 (p : Nat), .bool true]) ∧ b.length ≤ d ∧ FindSt ways b b.length p A B) ∨
  (e = .returned (.tuple #[.int .i64 0, .bool false]) ∧ ∀ m, m < ways.length → (wayAt ways m).take b.length ≠ b))
set_option maxRecDepth 100000 in
set_option maxHeartbeats 4000000 in
theorem c_findT (pt d : Nat) (ways : List (List ByteArray)) (b : List ByteArray) (ab : Option Addr) (k cb : Nat) (w : World) (h : TrieV w pt d ways) (hw : Ways d ways) (hb : StrsAt w ab k b) (hd : d ≤ 64) (hn : ways.length ≤ 1000000) :
    Calls Tryz.prog 45 #[.pointer (some ⟨pt, 0, none⟩), .slice ab k cb] w (FindPost d ways b w) := by
  have H := Lib.hid h
  have HW := Lib.hid hw
  have HB := Lib.hid hb
  have hkl : b.length = k := hb.2.1
  have hkm : k ≤ 9223372036854775807 := hb.1
  have DP := Lib.hid (c_depth pt d ways w h)
  have LN := Lib.hid (c_lenT pt d ways w h)
  clear h hb
  by_cases hkd : k ≤ d
  · have q1 : decide (d < k) = false := by simpa using hkd
    by_cases hN : ways.length = 0
    · have q2 : ((ways.length : Int) == 0) = true := by simpa using hN
      have HP : Hid (FindPost d ways b w (.returned (.tuple #[.int .i64 0, .bool false])) w) := ⟨Below.refl _ _, .inr ⟨rfl, fun _ hm => by omega⟩⟩
      clear hw
      go_enter Tryz.func45, Tryz.ntmps45
      go_wp2_with (first
        | (go_at_call 17; (with_reducible refine DP.out.mono ?_); rintro e w1 ⟨rfl, hw1⟩; obtain rfl := hw1.symm)
        | (go_at_call 16; (with_reducible refine LN.out.mono ?_); rintro e w1 ⟨rfl, hw1⟩; obtain rfl := hw1.symm))
      go_ret2
      exact HP.out
    · have q2 : ((ways.length : Int) == 0) = false := by simpa using hN
      obtain ⟨g, h0, h1⟩ := H.out.keys
      have HK := Lib.hid h1
      clear h1 hw
      go_enter Tryz.func45, Tryz.ntmps45
      go_wp2_with (first
        | (go_at_call 17; (with_reducible refine DP.out.mono ?_); rintro e w1 ⟨rfl, hw1⟩; obtain rfl := hw1.symm)
        | (go_at_call 16; (with_reducible refine LN.out.mono ?_); rintro e w1 ⟨rfl, hw1⟩; obtain rfl := hw1.symm))
      go_loopw [6, 22] (fun v6 v22 wj => ∃ i p A B : Nat, i ≤ k ∧ v22 = .int .i64 (i : Int) ∧ v6 = .int .i64 (p : Int) ∧ Ext w wj ∧ FindSt ways b i p A B) (fun _ v22 _ => k - (intOf v22).toNat)
      case atStart => exact ⟨0, 0, 0, ways.length, Nat.zero_le _, rfl, rfl, Below.refl _ _, FindSt.start b (by omega)⟩
      case round =>
        obtain ⟨i, p, A, B, hik, rfl, rfl, he, hst⟩ := hrel
        have HE := Lib.hid he
        have ST := Lib.hid hst
        clear hst
        by_cases hlt : i < k
        · have hki : (i : Int) < (k : Int) := by omega
          obtain ⟨x, b1, o1, hx, rfl, c1⟩ := (HB.out.keep he).2.at hlt
          have HX := Lib.hid hx
          have g1 : wr.cell? ⟨b1, o1 + i, none⟩ = some (.string x) := by simpa [strAt] using c1
          obtain ⟨ka, kc, z1, _, _⟩ := HK.out 0 (by omega)
          rw [Nat.zero_mul] at z1
          have k0 := keep he h0
          have k1 := keep he z1
          have q3 : (0 : Int) < (d : Int) := by omega
          clear hx c1 z1
          go_upto_region 8 with (fail)
          refine wp_gen (fun W7 hW7 => ?_)
          have E7 : Hid (Ext wr W7) := by show Ext _ _; rw [hW7]; exact ext_alloc (Below.refl _ _) _
          have y0 : W7.cell? ⟨wr.heap.size, 0, none⟩ = some (.int .i64 0) := by rw [hW7]; go_simp
          have y1 : W7.cell? ⟨wr.heap.size, 1, none⟩ = some (.int .i64 (wid ways 0 ways.length : Nat)) := by rw [hW7]; go_simp
          have y2 : W7.frozen? ⟨wr.heap.size, 0, none⟩ = false := by rw [hW7]; go_simp
          have y3 : W7.frozen? ⟨wr.heap.size, 1, none⟩ = false := by rw [hW7]; go_simp
          have y4 : wr.heap.size < W7.heap.size := by rw [hW7]; simp
          clear hW7
          go_upto_if 37 with (fail)
          go_cut [40] (fun _ wc => Ext wr wc ∧ wc.cell? ⟨wr.heap.size, 0, none⟩ = some (.int .i64 (wid ways i A : Nat)) ∧ wc.cell? ⟨wr.heap.size, 1, none⟩ = some (.int .i64 (wid ways i B : Nat)))
          case first =>
            by_cases hi0 : i = 0
            · subst hi0
              obtain ⟨_, e1, e2⟩ := ST.out.zero rfl
              go_wp2
              go_meet
              rw [e1, e2]
              exact ⟨E7.out, y0, y1⟩
            · obtain ⟨j, rfl⟩ : ∃ j, i = j + 1 := ⟨i - 1, by omega⟩
              obtain ⟨e1, e2, e3⟩ := ST.out.pos (by omega)
              rw [Nat.add_sub_cancel] at e1 e2 e3
              have BL := Lib.hid (c_below pt d ways j p W7 (H.out.ext (ext_trans HE.out E7.out)) (by omega) e1 hn)
              unfold belowS spanV at BL
              have r1 : IntKind.i64.wrap (j : Int) = (j : Int) := by rw [IntKind.wrap_i64]; omega
              go_wp2_with (go_at_call 48; (with_reducible refine BL.out.mono ?_); rintro e w1 ⟨rfl, hE1⟩; have s0 := keep hE1 y0; have s1 := keep hE1 y1; have s2 := (hE1.frozen (p := ⟨wr.heap.size, 0, none⟩) y4).trans y2; have s3 := (hE1.frozen (p := ⟨wr.heap.size, 1, none⟩) y4).trans y3)
              go_meet
              rw [e2, e3]
              exact ⟨ext_set (ext_set (ext_trans E7.out hE1) (Nat.le_refl _) _) (Nat.le_refl _) _, by go_simp, by go_simp⟩
          case rest =>
            obtain ⟨hE8, c0, c1⟩ := hcut
            have E8 : Hid (Ext w wc) := ext_trans HE.out hE8
            have wb := wid_mono ways i ST.out.seg.top
            have wab := wid_mono ways i ST.out.seg.le
            have SK := Lib.hid (c_seek pt d ways i (wid ways i A) (wid ways i B) x wc (H.out.ext E8.out) (by omega) wab wb (by omega) (ST.out.seg.cut HW.out (by omega) x (Nat.le_refl _)) hn)
            unfold spanV at SK
            dsimp only at SK
            obtain ⟨s1, s2, s3⟩ := ST.out.seg.seek HW.out (by omega : i < d) x
            have NO := Lib.hid (fun hn => ST.out.no HW.out (by omega : i < d) HX.out hn)
            have YES := Lib.hid (fun r => ST.out.yes (r := r) HW.out (by omega : i < d) HX.out)
            obtain ⟨kb, kc2, z1, z2, _, _⟩ := HK.out i (by omega)
            obtain ⟨r, hr⟩ : ∃ r, skP (keysM ways i ways.length) (wid ways i A) (wid ways i B) x = r := ⟨_, rfl⟩
            rw [hr] at SK s1 s2 NO
            have hEp : Hid (∀ w9, Ext wc w9 → (∀ m, m < ways.length → (wayAt ways m).take (i + 1) ≠ b.take (i + 1)) → FindPost d ways b w (.returned (.tuple #[.int .i64 0, .bool false])) w9) := fun w9 h9 hno => ⟨ext_trans E8.out h9, .inr ⟨rfl, fun m hm e => hno m hm (by
              rw [← e, List.take_take, Nat.min_eq_left (by rw [hkl]; omega)])⟩⟩
            clear s3 hr
            by_cases hre : r = wid ways i B
            · have BAD : Hid (∀ w9, Ext wc w9 → FindPost d ways b w (.returned (.tuple #[.int .i64 0, .bool false])) w9) := fun w9 h9 => hEp.out w9 h9 (NO.out (fun hlt => by omega))
              subst hre
              go_wp2_with (go_at_call 64; (with_reducible refine SK.out.mono ?_); rintro e w1 ⟨rfl, hE1⟩; have t0 := keep hE1 c0; have t1 := keep hE1 c1)
              go_ret2
              exact BAD.out _ hE1
            · have hrB : r < wid ways i B := by omega
              have hrN : r < wid ways i ways.length := by omega
              obtain ⟨y, b2, o2, hy, rfl, hc⟩ := z2.2.at hrN
              rw [keysM_at ways i r hrN] at hy
              have hky : keyAt ways i (st ways i r) = y := by cases hy; rfl
              have hcy : w.cell? ⟨b2, o2 + r, none⟩ = some (.string y) := by simpa [strAt] using hc
              obtain ⟨q, hq⟩ : ∃ q, (y.toList == x.toList) = q := ⟨_, rfl⟩
              have hq2 : decide (y = x) = q := by rw [← hq, beq_bytes]
              have T0 := Lib.hid (keep E8.out h0)
              have T1 := Lib.hid (keep E8.out z1)
              have T2 := Lib.hid (keep E8.out hcy)
              have u1 : ((r : Int) == (wid ways i B : Int)) = false := beq_eq_false_iff_ne.2 (by omega)
              have u2 : (r : Int) < (wid ways i ways.length : Int) := by omega
              have u3 : (i : Int) < (d : Int) := by omega
              clear hy hc z1 z2
              cases q with
              | true =>
                have NX := Lib.hid (YES.out r s1 hrB (by rw [hky]; simpa using hq2))
                go_wp2_with (go_at_call 64; (with_reducible refine SK.out.mono ?_); rintro e w1 ⟨rfl, hE1⟩; have t0 := keep hE1 c0; have t1 := keep hE1 c1; have t2 := keep hE1 T0.out; have t3 := keep hE1 T1.out; have t4 := keep hE1 T2.out)
                go_roundw
                case rel => exact ⟨i + 1, r, _, _, by omega, by go_num, rfl, ext_trans E8.out hE1, NX.out⟩
                case measure => simp [intOf]; omega
              | false =>
                have BAD : Hid (∀ w9, Ext wc w9 → FindPost d ways b w (.returned (.tuple #[.int .i64 0, .bool false])) w9) := fun w9 h9 => hEp.out w9 h9 (NO.out (fun _ e => by rw [hky] at e; simp [e] at hq2))
                go_wp2_with (go_at_call 64; (with_reducible refine SK.out.mono ?_); rintro e w1 ⟨rfl, hE1⟩; have t0 := keep hE1 c0; have t1 := keep hE1 c1; have t2 := keep hE1 T0.out; have t3 := keep hE1 T1.out; have t4 := keep hE1 T2.out)
                go_ret2
                exact BAD.out _ hE1
        · obtain rfl : i = k := by omega
          have hge : ¬ (i : Int) < (i : Int) := by omega
          have HP : Hid (FindPost d ways b w (.returned (.tuple #[.int .i64 (p : Int), .bool true])) wr) := by
            refine ⟨HE.out, .inl ⟨p, A, B, rfl, by omega, ?_⟩⟩
            rw [hkl]
            exact ST.out
          go_wp2
          go_ret2
          exact HP.out
  · have q1 : decide (d < k) = true := by simp; omega
    have HP : Hid (FindPost d ways b w (.returned (.tuple #[.int .i64 0, .bool false])) w) := ⟨Below.refl _ _, .inr ⟨rfl, fun m hm e => by
      have h1 := congrArg List.length e
      rw [List.length_take, (HW.out.at hm).2] at h1
      omega⟩⟩
    clear hw
    go_enter Tryz.func45, Tryz.ntmps45
    go_wp2_with (first
      | (go_at_call 17; (with_reducible refine DP.out.mono ?_); rintro e w1 ⟨rfl, hw1⟩; obtain rfl := hw1.symm)
      | (go_at_call 16; (with_reducible refine LN.out.mono ?_); rintro e w1 ⟨rfl, hw1⟩; obtain rfl := hw1.symm))
    go_ret2
    exact HP.out
end Go.Proofs.YthjpfplebbnbpaaGreat
