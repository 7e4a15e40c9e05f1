/- The walk of the law's awake: three rows by their second column. -/
import Derived.Test.YthjpfplebbnbpaaCov
namespace Go.Proofs.Ythjpfplebbnbpaa
open Go.ChangeShapes Go.WideShapes Go.ChangeAt Go.RowKit
abbrev tA : ByteArray := ⟨#[97]⟩
abbrev tB : ByteArray := ⟨#[98]⟩
abbrev tX : ByteArray := ⟨#[120]⟩
abbrev tY : ByteArray := ⟨#[121]⟩
def awkRows : List (List ByteArray) := [[tA, tX], [tA, tY], [tB, tX]]
def awkWays : List (List ByteArray) := [[tX, tA], [tX, tB], [tY, tA]]
theorem awk_rows : addRow 2 (addRow 2 (addRow 2 [] [tA, tX]) [tA, tY]) [tB, tX] = awkRows := by kernel_rfl
theorem awk_order : orderOk 2 [1, 0] := by
  intro i c h
  match i, h with
  | 0, h => cases h; exact ⟨by decide, by decide, by simp⟩
  | 1, h => cases h; exact ⟨by decide, by decide, by decide⟩
  | i + 2, h => simp at h
theorem awk_proj : awkRows.map (projM [1, 0]) = [[tX, tA], [tY, tA], [tX, tB]] := by kernel_rfl
theorem awk_rising : Rising awkWays := by
  have h1 : cmpRow [tX, tA] [tX, tB] = -1 := by kernel_rfl
  have h2 : cmpRow [tX, tA] [tY, tA] = -1 := by kernel_rfl
  have h3 : cmpRow [tX, tB] [tY, tA] = -1 := by kernel_rfl
  refine List.pairwise_cons.2 ⟨fun z hz => ?_, List.pairwise_cons.2 ⟨fun z hz => ?_, List.pairwise_singleton _ _⟩⟩
  · simp at hz
    rcases hz with rfl | rfl
    · rw [h1]; decide
    · rw [h2]; decide
  · simp at hz
    subst hz
    rw [h3]
    decide
theorem awk_ways {ways : List (List ByteArray)} (h : Ways 2 ways) (hm : ∀ x, x ∈ ways ↔ ∃ r ∈ awkRows, projM [1, 0] r = x) : ways = awkWays := by
  refine rising_ext h.rising awk_rising fun x => ?_
  rw [hm x, ← List.mem_map, awk_proj]
  simp only [awkWays, List.mem_cons, List.not_mem_nil, or_false]
  constructor <;> (rintro (h | h | h) <;> simp [h])
theorem awk_w : Ways 2 awkWays := ⟨awk_rising, fun r hr => by
  simp [awkWays] at hr
  rcases hr with rfl | rfl | rfl <;> rfl⟩
theorem awk_0 : wid awkWays 0 3 = 2 := by kernel_rfl
theorem awk_b : belowS awkWays 0 0 = (0, 2) := by kernel_rfl
theorem awk_keys : keysOf awkWays [(0, 2), (1, 2)] = [tX, tB] := by kernel_rfl
theorem awk_count : countP awkWays [tX] = 2 := by kernel_rfl
theorem awk_fol {xs : List ByteArray} (h : FolIs 2 awkWays [tX] xs) : xs = [tA, tB] := by
  rcases h with ⟨p, A, B, h1, h2, rfl⟩ | ⟨h | h, _⟩
  · obtain ⟨a1, a2⟩ := h2.all 0 (by decide) (by kernel_rfl)
    obtain ⟨p1, p2, p3⟩ := h2.pos (by decide)
    have hp : p < 2 := by
      have : wid awkWays 0 awkWays.length = 2 := awk_0
      simpa [this] using p1
    have : p = 0 := by
      rcases (by omega : p = 0 ∨ p = 1) with rfl | rfl
      · rfl
      · have e : st awkWays ([tX].length - 1) 1 = 2 := by kernel_rfl
        rw [e] at p2
        omega
    subst this
    have e1 : st awkWays ([tX].length - 1) 0 = 0 := by kernel_rfl
    have e2 : st awkWays ([tX].length - 1) (0 + 1) = 2 := by kernel_rfl
    subst p2
    subst p3
    rw [e1, e2]
    show segKeys awkWays 1 0 2 = [tA, tB]
    kernel_rfl
  · simp at h
  · have e : (wayAt awkWays 0).take [tX].length = [tX] := by kernel_rfl
    exact (h 0 (by decide) e).elim
theorem awk_c1 : CurSt 2 awkWays [(0, 2)] 0 3 := .one (d := 2) (ways := awkWays) 0 (by decide) (by decide) (Nat.zero_le _)
theorem awk_c2 (f : Nat) (hf : f ≤ 2) : CurSt 2 awkWays [(0, 2), (f, 2)] 0 2 := by
  have h := CurSt.more (d := 2) (ways := awkWays) [] 0 2 0 3 f awk_c1 (by decide) (by decide) (by rw [show wid awkWays ([] : List (Nat × Nat)).length.succ (st awkWays ([] : List (Nat × Nat)).length 0) = 0 by kernel_rfl]; exact Nat.zero_le _) (by rw [show wid awkWays ([] : List (Nat × Nat)).length.succ (st awkWays ([] : List (Nat × Nat)).length (0 + 1)) = 2 by kernel_rfl]; exact hf)
  have e : ([] ++ [(0, 2)] ++ [(f, wid awkWays (([] : List (Nat × Nat)).length + 1) (st awkWays ([] : List (Nat × Nat)).length (0 + 1)))] : List (Nat × Nat)) = [(0, 2), (f, 2)] := by kernel_rfl
  rw [e] at h
  have e1 : st awkWays ([] : List (Nat × Nat)).length 0 = 0 := by kernel_rfl
  have e2 : st awkWays ([] : List (Nat × Nat)).length (0 + 1) = 2 := by kernel_rfl
  rw [e1, e2] at h
  exact h
theorem two_strs (w : World) (x y : ByteArray) (t : TypeId) : StrsAt (w.alloc (.cells #[.string x, .string y] t)) (some ⟨w.heap.size, 0, none⟩) 2 [x, y] := by
  refine ⟨by decide, rfl, fun i z hz => ⟨w.heap.size, 0, rfl, ?_⟩⟩
  unfold strAt
  rw [World.cell?_alloc_new]
  match i, hz with
  | 0, hz => cases hz; rfl
  | 1, hz => cases hz; rfl
  | i + 2, hz => simp at hz
theorem one_str (w : World) (x : ByteArray) (t : TypeId) : StrsAt (w.alloc (.cells #[.string x] t)) (some ⟨w.heap.size, 0, none⟩) 1 [x] := by
  refine ⟨by decide, rfl, fun i z hz => ⟨w.heap.size, 0, rfl, ?_⟩⟩
  unfold strAt
  rw [World.cell?_alloc_new]
  match i, hz with
  | 0, hz => cases hz; rfl
  | i + 1, hz => simp at hz
theorem two_ints (w : World) (x y : Int) (t : TypeId) : IntsAt (w.alloc (.cells #[.int .i64 x, .int .i64 y] t)) (some ⟨w.heap.size, 0, none⟩) 2 [x, y] := by
  refine ⟨by decide, rfl, fun i z hz => ⟨w.heap.size, 0, rfl, ?_⟩⟩
  unfold intAt
  rw [World.cell?_alloc_new]
  match i, hz with
  | 0, hz => cases hz; rfl
  | 1, hz => cases hz; rfl
  | i + 2, hz => simp at hz
/-- Rows at hand: since w nothing old was touched. -/
structure RowsSt (w : World) (lo pb ar : Nat) (rs : List (List ByteArray)) (W : World) : Prop where
  ext : Ext w W
  rows : RowsV W lo pb ar rs
  old : w.heap.size ≤ pb
  low : lo ≤ W.heap.size
theorem RowsSt.add {w W : World} {lo pb ar : Nat} {rs : List (List ByteArray)} (h : RowsSt w lo pb ar rs W) {x y : ByteArray} (hr : Rising rs) (har : ar ≤ 64) (hn : rs.length < 65536) :
    Calls Try.prog 32 #[.pointer (some ⟨pb, 0, none⟩), .slice (some ⟨W.heap.size, 0, none⟩) 2 2] (W.alloc (.cells #[.string x, .string y] 9)) fun e w' => (∃ b k, e = .returned (.tuple #[.bool b, .int .i64 k])) ∧ RowsSt w lo pb ar (addRow ar rs [x, y]) w' := by
  have e1 : Ext W (W.alloc (.cells #[.string x, .string y] 9)) := ext_alloc (Below.refl _ W) _
  refine (c_addR lo pb ar rs [x, y] (some ⟨W.heap.size, 0, none⟩) 2 2 _ (h.rows.ext e1) hr (two_strs W x y _) (fun e => by cases e) har hn (Nat.le_trans h.low e1.size)).mono fun e w' ⟨h1, h2, h3⟩ => ⟨h1, ext_of_but (ext_trans h.ext e1) h3 (fun b hb => ?_), h2, h.old, Nat.le_trans h.low (Nat.le_trans e1.size h3.size)⟩
  have := h.rows.lt
  have := h.old
  omega
set_option maxRecDepth 100000 in
set_option maxHeartbeats 4000000 in
theorem c_awake (w : World) : Calls Try.prog 6 #[] w fun e w' => e = .returned (.bool true) ∧ Ext w w' := by
  have NR : Hid (Calls Try.prog 31 #[.int .i64 2] w fun e w' => e = .returned (.tuple #[.pointer (some ⟨w.heap.size, 0, none⟩), .int .i64 0]) ∧ RowsSt w w'.heap.size w.heap.size 2 [] w') := (c_newRows 2 (by decide) w).mono fun e w' ⟨h1, h2, h3⟩ => ⟨h1, h3, h2, Nat.le_refl _, Nat.le_refl _⟩
  have f0 : Rising ([] : List (List ByteArray)) := List.Pairwise.nil
  have f1 := addRow_rising (ar := 2) f0 [tA, tX]
  have f2 := addRow_rising (ar := 2) f1 [tA, tY]
  have l1 := addRow_len 2 [] [tA, tX]
  have l2 := addRow_len 2 (addRow 2 [] [tA, tX]) [tA, tY]
  have F := Lib.hid (And.intro f0 (And.intro f1 f2))
  rw [List.length_nil] at l1
  clear f0 f1 f2
  have eqp := nil_eqW
  go_enter Try.func6, Try.ntmps6
  go_upto_region 4 with (go_at_call 31; (with_reducible refine NR.out.mono ?_); rintro e w1 ⟨rfl, hr1⟩)
  obtain ⟨lo, hlo⟩ : ∃ lo, w1.heap.size = lo := ⟨_, rfl⟩
  obtain ⟨pb, hpb⟩ : ∃ pb, w.heap.size = pb := ⟨_, rfl⟩
  rw [hlo, hpb] at hr1
  rw [hpb]
  clear hlo hpb NR
  have A1 := Lib.hid (hr1.add (x := tA) (y := tX) F.out.1 (by decide) (by decide))
  go_upto_region 5 with (go_at_call 32; (with_reducible refine A1.out.mono ?_); rintro e w2 ⟨⟨b2, k2, rfl⟩, hr2⟩)
  have A2 := Lib.hid (hr2.add (x := tA) (y := tY) F.out.2.1 (by decide) (by omega))
  go_upto_region 6 with (go_at_call 32; (with_reducible refine A2.out.mono ?_); rintro e w3 ⟨⟨b3, k3, rfl⟩, hr3⟩)
  have A3 := Lib.hid (hr3.add (x := tB) (y := tX) F.out.2.2 (by decide) (by omega))
  go_upto_region 7 with (go_at_call 32; (with_reducible refine A3.out.mono ?_); rintro e w4 ⟨⟨b4, k4, rfl⟩, hr4⟩)
  rw [awk_rows] at hr4
  have ea := ext_alloc (Below.refl _ w4) (.cells #[.int .i64 1, .int .i64 0] 3)
  have BD : Hid (Calls Try.prog 33 #[.pointer (some ⟨pb, 0, none⟩), .slice (some ⟨w4.heap.size, 0, none⟩) 2 2] (w4.alloc (.cells #[.int .i64 1, .int .i64 0] 3)) fun e w' => ∃ pt, e = .returned (.tuple #[.pointer (some ⟨pt, 0, none⟩), .int .i64 0]) ∧ TrieV w' pt 2 awkWays ∧ Ext w w') := by
    refine (c_build lo pb 2 awkRows [1, 0] (some ⟨w4.heap.size, 0, none⟩) 2 2 _ (hr4.rows.ext ea) (by decide) (fun r hr => ?_) (by decide) (two_ints w4 1 0 _) (Nat.le_refl _)).mono fun e w' hp => ?_
    · simp [awkRows] at hr
      rcases hr with rfl | rfl | rfl <;> rfl
    · rcases hp with ⟨h4, _⟩ | ⟨_, pt, ways, rfl, h5, h6, h7, h8, h9, h10, h11⟩
      · exact absurd awk_order h4
      · obtain rfl := awk_ways h9 h10
        exact ⟨pt, rfl, h7, ext_trans (ext_trans hr4.ext ea) h8⟩
  have eqt := ptr_eqT
  clear hr1 hr2 hr3 hr4 ea
  go_upto_region 10 with (go_at_call 33; (with_reducible refine BD.out.mono ?_); rintro e w5 ⟨pt, rfl, tv, E5⟩)
  have WK := Lib.hid (c_walk pt 2 awkWays w5.heap.size w5 tv (Nat.le_refl _))
  have TV := Lib.hid tv
  have E5h := Lib.hid E5
  clear tv E5
  go_upto_region 13 with (go_at_call 9; (with_reducible refine WK.out.mono ?_); rintro e w6 ⟨rfl, cv6, E6⟩)
  have O1 := c_open_nil w5.heap.size pt w5.heap.size 2 awkWays none w6 cv6 (TV.out.ext E6) (by decide) (by decide)
  have e0 : wid awkWays 0 awkWays.length = 2 := awk_0
  rw [e0] at O1
  have O1h := Lib.hid O1
  clear O1 cv6 e0
  go_upto_region 14 with (go_at_call 14; (with_reducible refine O1h.out.mono ?_); rintro e w7 ⟨rfl, g7, cv7, b7, _⟩)
  have E7 : Ext w5 w7 := ext_of_but E6 b7 (fun b hb => by
    rintro (rfl | h)
    · exact absurd hb (Nat.lt_irrefl _)
    · cases h)
  have F1 := awk_c1.facts awk_w [] 0 2 rfl
  have O2 := c_open w5.heap.size pt w5.heap.size g7 2 awkWays [] 0 2 0 3 w7 cv7 (TV.out.ext E7) F1 (by decide) (by decide) (by decide) (by decide)
  have e1 : belowS awkWays ([] : List (Nat × Nat)).length 0 = (0, 2) := awk_b
  rw [e1] at O2
  have O2h := Lib.hid O2
  have hg7 := cv7.ne rfl
  have CV7 := Lib.hid cv7
  clear O2 cv7 b7 e1
  go_upto_region 15 with (go_at_call 14; (with_reducible refine O2h.out.mono ?_); rintro e w8 ⟨rfl, g8, cv8, b8, _⟩)
  have E8 : Ext w5 w8 := ext_of_but E7 b8 (fun b hb => by
    rintro (rfl | h)
    · exact absurd hb (Nat.lt_irrefl _)
    · cases h
      omega)
  have N1 := Lib.hid (c_next w5.heap.size pt w5.heap.size g8 [(0, 2)] 0 2 w8 cv8 (by decide) (by decide))
  have hg8 := cv8.ne rfl
  clear cv8 b8
  go_upto_region 16 with (go_at_call 13; (with_reducible refine N1.out.mono ?_); rintro e w9 ⟨rfl, cv9, b9⟩)
  have E9 : Ext w5 w9 := ext_of_but E8 b9 (fun b hb => by
    rintro (rfl | h)
    · exact absurd hb (Nat.lt_irrefl _)
    · cases h
      omega)
  have K1 := c_keys w5.heap.size pt w5.heap.size 2 awkWays (some g8) [(0, 2), (1, 2)] 0 2 w9 cv9 (TV.out.ext E9) awk_w (awk_c2 1 (by decide)) (by kernel_rfl) (by decide) (by decide)
  rw [awk_keys] at K1
  have K1h : Hid (Calls Try.prog 16 #[.pointer (some ⟨w5.heap.size, 0, none⟩)] w9 fun e w' => ∃ a n c, e = .returned (.slice a n c) ∧ StrsAt w' a n [tX, tB] ∧ Ext w9 w') := K1.mono fun e w' ⟨a, n, c, h1, h2, h3, h4⟩ => ⟨a, n, c, h1, by
    subst h4
    exact own_strs h2 (own_len h2).1, h3⟩
  have TX : Hid (∀ W a n c, StrsAt W a n [tX, tB] → Calls Try.prog 25 #[.slice a n c, .slice (some ⟨W.heap.size, 0, none⟩) 2 2] (W.alloc (.cells #[.string tX, .string tB] 9)) fun e w' => e = .returned (.bool true) ∧ Ext W w') := fun W a n c h => by
    have ea := ext_alloc (Below.refl _ W) (.cells #[.string tX, .string tB] 9)
    have := c_texts [tX, tB] [tX, tB] a n c (some ⟨W.heap.size, 0, none⟩) 2 2 _ (h.keep ea) (two_strs W tX tB _)
    rw [decide_eq_true rfl] at this
    exact this.mono fun e w' ⟨h1, h2⟩ => ⟨h1, ext_trans ea h2⟩
  have CN : Hid (∀ W, Ext w5 W → Calls Try.prog 26 #[.pointer (some ⟨pt, 0, none⟩), .slice (some ⟨W.heap.size, 0, none⟩) 1 1] (W.alloc (.cells #[.string tX] 9)) fun e w' => e = .returned (.int .i64 2) ∧ Ext W w') := fun W h => by
    have ea := ext_alloc (Below.refl _ W) (.cells #[.string tX] 9)
    have := c_count pt 2 awkWays [tX] (some ⟨W.heap.size, 0, none⟩) 1 1 _ (TV.out.ext (ext_trans h ea)) awk_w (one_str W tX _) (by decide) (by decide)
    rw [awk_count] at this
    exact this.mono fun e w' ⟨h1, h2⟩ => ⟨h1, ext_trans ea h2⟩
  have FO : Hid (∀ W, Ext w5 W → Calls Try.prog 27 #[.pointer (some ⟨pt, 0, none⟩), .slice (some ⟨W.heap.size, 0, none⟩) 1 1] (W.alloc (.cells #[.string tX] 9)) fun e w' => ∃ a n c, e = .returned (.slice a n c) ∧ StrsAt w' a n [tA, tB] ∧ Ext W w') := fun W h => by
    have ea := ext_alloc (Below.refl _ W) (.cells #[.string tX] 9)
    refine (c_follow pt 2 awkWays [tX] (some ⟨W.heap.size, 0, none⟩) 1 1 _ (TV.out.ext (ext_trans h ea)) awk_w (one_str W tX _) (by decide) (by decide)).mono fun e w' ⟨a, n, c, xs, h1, h2, h3, h4, h5⟩ => ?_
    obtain rfl := awk_fol h4
    exact ⟨a, n, c, h1, own_strs h2 (own_len h2).1, ext_trans ea h3⟩
  have TX2 : Hid (∀ W a n c, StrsAt W a n [tA, tB] → Calls Try.prog 25 #[.slice a n c, .slice (some ⟨W.heap.size, 0, none⟩) 2 2] (W.alloc (.cells #[.string tA, .string tB] 9)) fun e w' => e = .returned (.bool true) ∧ Ext W w') := fun W a n c h => by
    have ea := ext_alloc (Below.refl _ W) (.cells #[.string tA, .string tB] 9)
    have := c_texts [tA, tB] [tA, tB] a n c (some ⟨W.heap.size, 0, none⟩) 2 2 _ (h.keep ea) (two_strs W tA tB _)
    rw [decide_eq_true rfl] at this
    exact this.mono fun e w' ⟨h1, h2⟩ => ⟨h1, ext_trans ea h2⟩
  have LN : Hid (∀ W, Ext w5 W → Calls Try.prog 18 #[.pointer (some ⟨pt, 0, none⟩)] W fun e w' => e = .returned (.int .i64 3) ∧ w' = W) := fun W h => c_lenT pt 2 awkWays W (TV.out.ext h)
  clear K1 cv9 b9 F1
  go_wp2_with (first
    | (go_at_call 16; (with_reducible refine K1h.out.mono ?_); rintro e w10 ⟨a10, n10, c10, rfl, s10, E10⟩)
    | (go_at_call 25; (with_reducible refine (TX.out _ _ _ _ s10).mono ?_); rintro e w11 ⟨rfl, E11⟩; have X11 := ext_trans E9 (ext_trans E10 E11))
    | (go_at_call 18; (with_reducible refine (LN.out _ X11).mono ?_); rintro e w12 ⟨rfl, hw12⟩; obtain rfl := hw12.symm)
    | (go_at_call 26; (with_reducible refine (CN.out _ X11).mono ?_); rintro e w13 ⟨rfl, E13⟩; have X13 := ext_trans X11 E13)
    | (go_at_call 27; (with_reducible refine (FO.out _ X13).mono ?_); rintro e w14 ⟨a14, n14, c14, rfl, s14, E14⟩)
    | (go_at_call 25; (with_reducible refine (TX2.out _ _ _ _ s14).mono ?_); rintro e w15 ⟨rfl, E15⟩))
  go_returns
  exact ⟨rfl, ext_trans E5h.out (ext_trans X13 (ext_trans E14 E15))⟩
end Go.Proofs.Ythjpfplebbnbpaa
