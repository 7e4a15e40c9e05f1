/- slices.SortFunc at rows, by the shelf's contract: a permutation, sorted. Lists of numbers in memory; the walks of slices.Index, slices.Contains at numbers. Tries, a plain law: where the ways of a beginning lie, what the levels hold. No program in sight. The walks of Rows.Each and of the trie's projected: the ways, in their order, each once. Ranges over a function whose iterator hands out what lies in memory: how the statement is entered and left, and one round of it. A region that draws its order, within a round of a loop over a function: what holds of it outside holds there. -/
import Derived.Test.YtpgbenijjodoeaaGreatG2
import Derived.Test.YtpgbenijjodoeaaGreatG7
import Derived.Shelf.SlSortCmp.Whole1
import Derived.Shelf.SlSortCmp.NoneTotal
import Derived.Shelf.SlGeneric
import Derived.Ground.SlsfProg
import Derived.Deep.RegionHeld3
namespace Go.Proofs.YtpgbenijjodoeaaGreat
open Go.ChangeShapes Go.WideShapes Go.ChangeAt Go.RowKit
def Tryz.sortR_ren : Go.Shelf.Ren := ⟨fun | 6 => 132 | 15 => 140 | 14 => 139 | 28 => 150 | 29 => 151 | 20 => 142 | 21 => 143 | 22 => 144 | 23 => 145 | 24 => 146 | 25 => 147 | 26 => 148 | 27 => 149 | 46 => 154 | 47 => 155 | 48 => 156 | 49 => 157 | 50 => 158 | 57 => 159 | n => n, fun | 22 => 64 | 24 => 46 | 25 => 95 | 3 => 3 | 39 => 114 | 0 => 0 | 53 => 155 | 55 => 158 | 4 => 4 | 46 => 211 | 45 => 210 | 50 => 112 | 5 => 5 | 9 => 9 | 66 => 219 | 70 => 223 | 76 => 225 | 77 => 177 | n => n, fun | n => n⟩
theorem Tryz.sortR : Go.Proofs.SlLaysF.n6 Tryz.prog Tryz.sortR_ren := {
  mixed := by kernel_rfl, f6 := ⟨Tryz.f132.name, by decide, Tryz.func132.trans (congrArg some (by kernel_rfl))⟩, f14 := ⟨Tryz.f139.name, by decide, Tryz.func139.trans (congrArg some (by kernel_rfl))⟩, f15 := Tryz.func140.trans (congrArg some (by kernel_rfl)), f20 := ⟨Tryz.f142.name, by decide, Tryz.func142.trans (congrArg some (by kernel_rfl))⟩, f21 := ⟨Tryz.f143.name, by decide, Tryz.func143.trans (congrArg some (by kernel_rfl))⟩, f22 := ⟨Tryz.f144.name, by decide, Tryz.func144.trans (congrArg some (by kernel_rfl))⟩, f23 := ⟨Tryz.f145.name, by decide, Tryz.func145.trans (congrArg some (by kernel_rfl))⟩,
  f24 := ⟨Tryz.f146.name, by decide, Tryz.func146.trans (congrArg some (by kernel_rfl))⟩, f25 := ⟨Tryz.f147.name, by decide, Tryz.func147.trans (congrArg some (by kernel_rfl))⟩, f26 := ⟨Tryz.f148.name, by decide, Tryz.func148.trans (congrArg some (by kernel_rfl))⟩, f27 := ⟨Tryz.f149.name, by decide, Tryz.func149.trans (congrArg some (by kernel_rfl))⟩, f28 := Tryz.func150.trans (congrArg some (by kernel_rfl)), f29 := Tryz.func151.trans (congrArg some (by kernel_rfl)), f46 := ⟨Tryz.f154.name, by decide, Tryz.func154.trans (congrArg some (by kernel_rfl))⟩, f47 := Tryz.func155.trans (congrArg some (by kernel_rfl)),
  f48 := Tryz.func156.trans (congrArg some (by kernel_rfl)), f49 := ⟨Tryz.f157.name, by decide, Tryz.func157.trans (congrArg some (by kernel_rfl))⟩, f50 := ⟨Tryz.f158.name, by decide, Tryz.func158.trans (congrArg some (by kernel_rfl))⟩, f57 := ⟨Tryz.f159.name, by decide, Tryz.func159.trans (congrArg some (by kernel_rfl))⟩, t0 := Tryz.underlying0, a0 := Tryz.isAgg0, z0 := Tryz.sizeOf0, v0 := Tryz.zeroValue0,
  t3 := Tryz.underlying3, a3 := Tryz.isAgg3, z3 := Tryz.sizeOf3, v3 := Tryz.zeroValue3, t4 := Tryz.underlying4, a4 := Tryz.isAgg4, z4 := Tryz.sizeOf4, v4 := Tryz.zeroValue4,
  t5 := Tryz.underlying5, a5 := Tryz.isAgg5, z5 := Tryz.sizeOf5, v5 := Tryz.zeroValue5, t9 := Tryz.underlying9, a9 := Tryz.isAgg9, z9 := Tryz.sizeOf9, v9 := Tryz.zeroValue9,
  t22 := Tryz.underlying64, a22 := Tryz.isAgg64, z22 := Tryz.sizeOf64, v22 := Tryz.zeroValue64, a24 := Tryz.isAgg46, z24 := Tryz.sizeOf46, t25 := Tryz.underlying95, a25 := Tryz.isAgg95,
  z25 := Tryz.sizeOf95, v25 := Tryz.zeroValue95, t39 := Tryz.underlying114, a39 := Tryz.isAgg114, z39 := Tryz.sizeOf114, v39 := Tryz.zeroValue114, t45 := Tryz.underlying210, a45 := Tryz.isAgg210,
  z45 := Tryz.sizeOf210, v45 := Tryz.zeroValue210, t46 := Tryz.underlying211, a46 := Tryz.isAgg211, z46 := Tryz.sizeOf211, v46 := Tryz.zeroValue211, t50 := Tryz.underlying112, a50 := Tryz.isAgg112,
  z50 := Tryz.sizeOf112, v50 := Tryz.zeroValue112, t53 := Tryz.underlying155, a53 := Tryz.isAgg155, z53 := Tryz.sizeOf155, v53 := Tryz.zeroValue155, t55 := Tryz.underlying158, a55 := Tryz.isAgg158,
  z55 := Tryz.sizeOf158, v55 := Tryz.zeroValue158, t66 := Tryz.underlying219, a66 := Tryz.isAgg219, z66 := Tryz.sizeOf219, v66 := Tryz.zeroValue219, t70 := Tryz.underlying223, a70 := Tryz.isAgg223,
  z70 := Tryz.sizeOf223, v70 := Tryz.zeroValue223, t76 := Tryz.underlying225, a76 := Tryz.isAgg225, z76 := Tryz.sizeOf225, v76 := Tryz.zeroValue225, t77 := Tryz.underlying177, a77 := Tryz.isAgg177,
  z77 := Tryz.sizeOf177, v77 := Tryz.zeroValue177 }
theorem sort_block {α : Type} [Inhabited α] {w : World} {g : Nat} {cur : Array Value} {e : TypeId} (enc : α → Value) (d' : Array α) (m : Nat) (os : Array Obj) (hg : w.heap[g]? = some (.cells cur e (0, 0))) :
    (sortWorld enc w g 0 m d' os).heap[g]? = some (.cells (Sort.putCells enc 0 d' cur) e (0, 0)) ∧ ButS (fun b => b = g) w (sortWorld enc w g 0 m d' os) := by
  have hlt := (Array.getElem?_eq_some_iff.1 hg).1
  refine ⟨?_, rfl, rfl, rfl, ?_, fun b hb hne => ?_⟩
  · show ((w.heap.modify g (Sort.onCells (Sort.putCells enc 0 d'))) ++ os)[g]? = _
    rw [Array.getElem?_append_left (by simpa using hlt), Array.getElem?_modify, if_pos rfl, hg]
    rfl
  · show w.heap.size ≤ ((w.heap.modify g (Sort.onCells (Sort.putCells enc 0 d'))) ++ os).size
    simp
  · show ((w.heap.modify g (Sort.onCells (Sort.putCells enc 0 d'))) ++ os)[b]? = _
    rw [Array.getElem?_append_left (by simpa using hb), Array.getElem?_modify, if_neg (fun e => hne e.symm)]
theorem putCells_take {α : Type} [Inhabited α] (enc : α → Value) (d : Array α) (cur : Array Value) (h : d.size ≤ cur.size) : (Sort.putCells enc 0 d cur).toList.take d.size = d.toList.map enc := by
  apply List.ext_getElem
  · simp [Sort.putCells]
    omega
  · intro i h1 h2
    have h3 : i < d.size := by simpa using h2
    simp [Sort.putCells, h3]
theorem extract_all {α : Type} {d : Array α} {n : Nat} (h : d.size = n) : d.extract 0 n = d := by
  rw [← h]
  exact Array.extract_size
theorem cmp_ge_trans {x y z : List ByteArray} (h1 : ¬ cmpRow x y < 0) (h2 : ¬ cmpRow y z < 0) : ¬ cmpRow x z < 0 := by
  intro h
  have s1 := cmpRow_swap x y
  by_cases e : cmpRow y x = 0
  · rw [← (cmpRow_zero y x).1 e] at h
    exact h2 h
  · exact h2 (cmpRow_trans y x z (by omega) h)
def SortPost (lo : Nat) (a : Option Addr) (n c : Nat) (ws : List (List ByteArray)) (w : World) (e : Ending) (w' : World) : Prop := e = .returned (.tuple #[]) ∧ ∃ us' ws', w'.ownsRow lo 46 1 (.slice a n c) n us' ∧ RowsAt lo w' us' ws' ∧ ws'.Perm ws ∧ Sorted ws' ∧ ButS (fun b => (Value.slice a n c).ownBlock = some b) w w'
set_option maxHeartbeats 1000000 in
theorem c_sort (lo : Nat) (a : Option Addr) (n c : Nat) (us : List Value) (ws : List (List ByteArray)) (w : World) (hown : w.ownsRow lo 46 1 (.slice a n c) n us) (hr : RowsAt lo w us ws) (hn : n ≤ 1000000) :
    Calls Tryz.prog 132 #[.slice a n c, .func (.func 133) #[] #[]] w (SortPost lo a n c ws w) := by
  have hul : us.length = n := by have := hown.1; omega
  have hwl : ws.length = n := by rw [← hr.1, hul]
  by_cases h0 : n = 0
  · subst h0
    have hcon := AnyF.slices_SortFunc_none (P := Tryz.prog) { Tryz.sortR with } a c (.func (.func 133) #[] #[]) w
    refine Calls.mono hcon ?_
    rintro e w' ⟨rfl, rfl⟩
    have hw0 : ws = [] := List.eq_nil_of_length_eq_zero hwl
    subst hw0
    exact ⟨rfl, us, [], hown, hr, List.Perm.refl _, List.Pairwise.nil, ButS.refl _ _⟩
  · obtain ⟨g, c', e0, _⟩ := own_formS hown (by omega)
    cases e0
    obtain ⟨cur, hcur, hcs, hct⟩ : ∃ cur : Array Value, w.heap[g]? = some (.cells cur 46 (0, 0)) ∧ n ≤ cur.size ∧ cur.toList.take n = us := by
      rcases hown.2 with ⟨h1, _⟩ | ⟨g', c', cur, h1, _, hg, hnc, _, hs, ht⟩
      · cases h1
      · cases h1
        exact ⟨cur, hg, by omega, by rw [Nat.mul_one] at ht; exact ht⟩
    have : Inhabited { j : Nat // j < n } := ⟨⟨0, by omega⟩⟩
    obtain ⟨enc, henc⟩ : ∃ enc : { j : Nat // j < n } → Value, enc = fun x => us[x.1]?.getD undef := ⟨_, rfl⟩
    obtain ⟨f, hf⟩ : ∃ f : { j : Nat // j < n } → List ByteArray, f = fun x => ws[x.1]?.getD [] := ⟨_, rfl⟩
    have hat : ∀ x : { j : Nat // j < n }, us[x.1]? = some (enc x) ∧ ws[x.1]? = some (f x) := fun x => by
      rw [henc, hf]
      simp only
      rw [List.getElem?_eq_getElem (show x.1 < us.length by rw [hul]; exact x.2), List.getElem?_eq_getElem (show x.1 < ws.length by rw [hwl]; exact x.2)]
      exact ⟨rfl, rfl⟩
    have hrow : ∀ x, w.ownsRow lo 9 1 (enc x) (f x).length ((f x).map Value.string) := fun x => hr.2 x.1 _ _ (hat x).2 (hat x).1
    obtain ⟨d, hd⟩ : ∃ d : Array { j : Nat // j < n }, d = Array.ofFn fun i : Fin n => ⟨i.1, i.2⟩ := ⟨_, rfl⟩
    have hds : d.size = n := by rw [hd]; simp
    have hdat : ∀ j (h : j < n), d[j]! = ⟨j, h⟩ := fun j h => by
      rw [getElem!_pos d j (by omega)]
      subst hd
      simp
    have hH : Sort.Holds enc w g 0 d := fun j hj => by
      rw [hds] at hj
      refine ⟨?_, by simp [World.frozen?, hcur]⟩
      have := hown.cells (g := g) rfl j _ (hat ⟨j, hj⟩).1
      rw [Addr.add_lit] at this
      rw [hdat j hj]
      exact this
    have hO : Sort.SWO (ltOf fun x y => cmpRow (f x) (f y)) := by
      refine ⟨fun x => ?_, fun x y z h1 h2 => ?_, fun x y z h1 h2 => ?_⟩
      · simp [ltOf, (cmpRow_zero (f x) (f x)).2 rfl]
      · simp only [ltOf, decide_eq_true_eq] at *
        exact cmpRow_trans _ _ _ h1 h2
      · simp only [ltOf, decide_eq_false_iff_not] at *
        exact cmp_ge_trans h1 h2
    have h1c : ∀ x, (enc x).oneCell' = true := fun x => by
      obtain ⟨_, _, e, _⟩ := own_form (hrow x)
      rw [e]
      rfl
    have hcmp : CmpReads Tryz.prog 133 #[] enc (fun x y => cmpRow (f x) (f y)) g 0 d.size w := fun m os dk _ x y => by
      have hb := (sort_block enc dk m os hcur).2
      have hx := row_str (hrow x) hown (hb.mono fun b _ e => by simp [Value.ownBlock, e])
      have hy := row_str (hrow y) hown (hb.mono fun b _ e => by simp [Value.ownBlock, e])
      obtain ⟨ax, cx, ex, _⟩ := own_form hx
      obtain ⟨ay, cy, ey, _⟩ := own_form hy
      rw [ex] at hx ⊢
      rw [ey] at hy ⊢
      exact (c_cmpF (f x) (f y) ax _ cx ay _ cy _ (own_strs hx (own_len hx).1) (own_strs hy (own_len hy).1)).mono fun e w' ⟨h1, h2⟩ => ⟨h1, 0, h2⟩
    have eg : ∀ args w, (callFunc 133 args).run Tryz.prog w = .ok (.enter 133 args) w := enters_of Tryz.func133 (by kernel_rfl) rfl
    have hcon := Any.slices_SortFunc Tryz.sortR enc h1c (fun x y => cmpRow (f x) (f y)) hO 133 #[] g 0 c d w eg hcmp.lays hH (Array.getElem?_eq_some_iff.1 hcur).1 (by omega)
    rw [hds] at hcon
    refine Calls.mono hcon ?_
    rintro e w' ⟨rfl, d', m, os, hp, hs, rfl⟩
    obtain ⟨k1, k2⟩ := sort_block enc d' m os hcur
    have hd's : d'.size = n := by rw [hp.1, hds]
    have hB : ButS (fun b => (Value.slice (some ⟨g, 0, none⟩) n c).ownBlock = some b) w (sortWorld enc w g 0 m d' os) := k2.mono fun b _ e => by simp [Value.ownBlock, e]
    refine ⟨rfl, d'.toList.map enc, d'.toList.map f, ?_, ⟨by simp, fun i r v h1 h2 => ?_⟩, ?_, ?_, hB⟩
    · refine ⟨by simp [hd's], ?_⟩
      rcases hown.2 with ⟨h1, _⟩ | ⟨g', c', cur', h1, hb', hg', hnc, hcm, hs', ht⟩
      · cases h1
      · cases h1
        rw [hcur] at hg'
        cases hg'
        exact .inr ⟨g, c, Sort.putCells enc 0 d' cur, rfl, hb', k1, hnc, hcm, by simp [Sort.putCells, hs'], by rw [Nat.mul_one, ← putCells_take enc d' cur (by omega), hd's]⟩
    · rw [List.getElem?_map] at h1 h2
      obtain ⟨x, hx, rfl⟩ := Option.map_eq_some_iff.1 h1
      obtain ⟨y, hy, rfl⟩ := Option.map_eq_some_iff.1 h2
      rw [hx] at hy
      cases hy
      exact row_str (hrow x) hown hB
    · have e1 : d.toList.map f = ws := by
        apply List.ext_getElem
        · simp [hds, hwl]
        · intro i h1 h2
          rw [List.getElem_map]
          have h3 : i < n := by omega
          have h4 : d.toList[i]'(by simp at h1; simpa using h1) = ⟨i, h3⟩ := by
            have := hdat i h3
            rw [getElem!_pos d i (by omega)] at this
            simpa using this
          rw [h4]
          have := (hat ⟨i, h3⟩).2
          rw [List.getElem?_eq_getElem h2] at this
          exact (Option.some.inj this).symm
      rw [← e1]
      have hpp := hp.2.2
      have x1 : d'.extract 0 n = d' := extract_all hd's
      have x2 : d.extract 0 n = d := extract_all hds
      rw [x1, x2] at hpp
      exact hpp.map f
    · refine List.pairwise_iff_getElem.2 fun i j hi hj hij => ?_
      have hi' : i < d'.size := by simpa using hi
      have hj' : j < d'.size := by simpa using hj
      have := hs i j (Nat.zero_le _) hij (by omega)
      rw [getElem!_pos d' i hi', getElem!_pos d' j hj'] at this
      simpa [ltOf] using this
end Go.Proofs.YtpgbenijjodoeaaGreat
namespace Go.Proofs.YtpgbenijjodoeaaGreat
open Go.ChangeShapes Go.WideShapes Go.ChangeAt Go.RowKit
def intAt (w : World) (b o : Nat) (x : Int) : Prop := w.cell? ⟨b, o, none⟩ = some (.int .i64 x)
def IntsAt (w : World) (a : Option Addr) (n : Nat) (xs : List Int) : Prop := n ≤ maxLen ∧ SliceAt intAt 1 w a n xs
theorem IntsAt.keep {W w : World} (hb : Ext W w) {a : Option Addr} {n : Nat} {xs : List Int} (h : IntsAt W a n xs) : IntsAt w a n xs := ⟨h.1, h.2.keep fun _ _ _ => YtpgbenijjodoeaaGreat.keep hb⟩
abbrev intV (x : Int) : Value := .int .i64 x
theorem own_ints {w : World} {base : Nat} {a : Option Addr} {n cap : Nat} {xs : List Int} (h : w.ownsRow base 3 1 (.slice a n cap) n (xs.map intV)) (hn : n ≤ maxLen) : IntsAt w a n xs := by
  have hl := h.1
  rw [List.length_map, Nat.mul_one] at hl
  refine ⟨hn, hl, fun i x hx => ?_⟩
  have hi := (List.getElem?_eq_some_iff.1 hx).1
  rcases h.2 with ⟨h1, h0⟩ | ⟨g, c', cur, hv, _⟩
  · omega
  · cases hv
    have := h.cells (g := g) rfl i (.int .i64 x) (by rw [List.getElem?_map, hx]; rfl)
    rw [Addr.add_lit] at this
    exact ⟨g, 0, rfl, by simpa [intAt] using this⟩
theorem IntsAt.take {w : World} {a : Option Addr} {n : Nat} {xs : List Int} (h : IntsAt w a n xs) {k : Nat} (hk : k ≤ n) : IntsAt w a k (xs.take k) := by
  refine ⟨Nat.le_trans hk h.1, by rw [List.length_take, h.2.1]; omega, fun i x hx => ?_⟩
  rw [List.getElem?_take] at hx
  split at hx
  · exact h.2.2 i x hx
  · cases hx
/-- Where a number is first. -/
def idxOf : List Int → Int → Nat → Int
  | [], _, _ => -1
  | y :: l, x, k => if x = y then (k : Int) else idxOf l x (k + 1)
theorem idxOf_mem (l : List Int) (x : Int) (k : Nat) : decide (0 ≤ idxOf l x k) = decide (x ∈ l) := by
  induction l generalizing k with
  | nil => rfl
  | cons y l ih =>
    rw [idxOf]
    by_cases h : x = y
    · rw [if_pos h]
      simp [h]
    · rw [if_neg h, ih]
      simp [h]
theorem c_index (xs : List Int) (x : Int) (a : Option Addr) (n cap : Nat) (w : World) (h : IntsAt w a n xs) :
    Calls Tryz.prog 131 #[.slice a n cap, .int .i64 x] w fun e w' => e = .returned (.int .i64 (idxOf xs x 0)) ∧ w' = w := by
  have H := Lib.hid h
  have HL := Lib.hid h.2.1
  have hn : n ≤ 9223372036854775807 := h.1
  clear h
  obtain ⟨R, hR⟩ : ∃ R, R = idxOf xs x 0 := ⟨_, rfl⟩
  rw [← hR]
  have FIN := Lib.hid hR
  clear hR
  go_enter Tryz.func131, Tryz.ntmps131
  go_wp2
  go_loopw [8] (fun v wj => ∃ k : Nat, k ≤ n ∧ v = .int .i64 (k : Int) ∧ wj = w ∧ R = idxOf (xs.drop k) x k) (fun v _ => n - (intOf v).toNat)
  case atStart => exact ⟨0, by omega, rfl, rfl, by rw [FIN.out, List.drop_zero]⟩
  case round =>
    obtain ⟨k, hk, rfl, rfl, hq⟩ := hrel
    have HQ := Lib.hid hq
    clear hq
    by_cases hlt : k < n
    · have hki : (k : Int) < (n : Int) := by omega
      obtain ⟨y, b1, o1, hx, rfl, h1⟩ := H.out.2.at hlt
      have HX := Lib.hid hx
      have g1 : wr.cell? ⟨b1, o1 + k, none⟩ = some (.int .i64 y) := by simpa [intAt] using h1
      clear hx h1
      have HST : Hid (R = if x = y then (k : Int) else idxOf (xs.drop (k + 1)) x (k + 1)) := by
        show _ = _
        rw [HQ.out, drop_at HX.out, idxOf]
      by_cases he : x = y
      · subst he
        go_wp2
        go_returns
        exact ⟨by rw [HST.out]; simp, rfl⟩
      · have HE := Lib.hid he
        go_wp2
        go_roundw
        case rel => exact ⟨k + 1, by omega, by go_num, by first | trivial | rfl, by rw [HST.out, if_neg HE.out]⟩
        case measure => simp [intOf]; omega
    · obtain rfl : k = n := by omega
      have hge : ¬ (k : Int) < (k : Int) := by omega
      go_wp2
      go_returns
      exact ⟨by rw [HQ.out, List.drop_of_length_le (by have := HL.out; omega)]; rfl, rfl⟩
theorem c_contains (xs : List Int) (x : Int) (a : Option Addr) (n cap : Nat) (w : World) (h : IntsAt w a n xs) :
    Calls Tryz.prog 114 #[.slice a n cap, .int .i64 x] w fun e w' => e = .returned (.bool (decide (x ∈ xs))) ∧ w' = w := by
  have H := Lib.hid h
  clear h
  obtain ⟨b, hb⟩ : ∃ b, decide (0 ≤ idxOf xs x 0) = b := ⟨_, rfl⟩
  have HB := Lib.hid hb
  have HM : Hid (decide (x ∈ xs) = b) := by show _ = _; rw [← hb, idxOf_mem]
  clear hb
  go_enter Tryz.func114, Tryz.ntmps114
  go_wp2_with (go_at_call 131; (with_reducible refine (c_index xs x _ _ _ _ H.out).mono ?_); rintro e w1 ⟨rfl, hw1⟩; obtain rfl := hw1.symm)
  go_returns
  exact ⟨by rw [HM.out, ← HB.out]; rfl, rfl⟩
end Go.Proofs.YtpgbenijjodoeaaGreat
namespace Go.Proofs.YtpgbenijjodoeaaGreat
def wayAt (ways : List (List ByteArray)) (m : Nat) : List ByteArray := ways[m]?.getD []
/-- Does way m part from the one ahead in its first i + 1 constants? -/
def fresh (ways : List (List ByteArray)) (i m : Nat) : Bool := decide (m = 0) || !decide ((wayAt ways (m - 1)).take (i + 1) = (wayAt ways m).take (i + 1))
def starts (ways : List (List ByteArray)) (i n : Nat) : List Nat := (List.range n).filter (fresh ways i)
/-- How many places level i has by the first n ways. -/
def wid (ways : List (List ByteArray)) (i n : Nat) : Nat := (starts ways i n).length
def keyAt (ways : List (List ByteArray)) (i m : Nat) : ByteArray := (wayAt ways m)[i]?.getD ⟨#[]⟩
def keysM (ways : List (List ByteArray)) (i n : Nat) : List ByteArray := (starts ways i n).map (keyAt ways i)
def fromM (ways : List (List ByteArray)) (i n : Nat) : List Nat := (starts ways i n).map (wid ways (i + 1))
/-- Where place j of level i begins. -/
def st (ways : List (List ByteArray)) (i j : Nat) : Nat := (starts ways i ways.length)[j]?.getD ways.length
theorem starts_succ (ways : List (List ByteArray)) (i n : Nat) : starts ways i (n + 1) = starts ways i n ++ if fresh ways i n = true then [n] else [] := by
  unfold starts
  rw [List.range_succ, List.filter_append]
  congr 1
  by_cases h : fresh ways i n = true <;> simp [h]
theorem wid_succ (ways : List (List ByteArray)) (i n : Nat) : wid ways i (n + 1) = wid ways i n + if fresh ways i n = true then 1 else 0 := by
  unfold wid
  rw [starts_succ, List.length_append]
  split <;> rfl
theorem wid_zero (ways : List (List ByteArray)) (i : Nat) : wid ways i 0 = 0 := rfl
theorem wid_le (ways : List (List ByteArray)) (i n : Nat) : wid ways i n ≤ n := by
  induction n with
  | zero => exact Nat.le_refl _
  | succ n ih => rw [wid_succ]; split <;> omega
theorem wid_mono (ways : List (List ByteArray)) (i : Nat) {m n : Nat} (h : m ≤ n) : wid ways i m ≤ wid ways i n := by
  induction n with
  | zero => rw [Nat.le_zero.1 h]; exact Nat.le_refl _
  | succ n ih =>
    rcases Nat.lt_or_ge m (n + 1) with h1 | h1
    · have := ih (by omega)
      rw [wid_succ]
      omega
    · obtain rfl : m = n + 1 := by omega
      exact Nat.le_refl _
theorem starts_prefix (ways : List (List ByteArray)) (i : Nat) {m n : Nat} (h : m ≤ n) : ∃ t, starts ways i n = starts ways i m ++ t := by
  induction n with
  | zero => rw [Nat.le_zero.1 h]; exact ⟨[], (List.append_nil _).symm⟩
  | succ n ih =>
    rcases Nat.lt_or_ge m (n + 1) with h1 | h1
    · obtain ⟨t, ht⟩ := ih (by omega)
      rw [starts_succ, ht, List.append_assoc]
      exact ⟨_, rfl⟩
    · obtain rfl : m = n + 1 := by omega
      exact ⟨[], (List.append_nil _).symm⟩
theorem starts_at (ways : List (List ByteArray)) (i : Nat) {m n : Nat} (h : m < n) (hf : fresh ways i m = true) : (starts ways i n)[wid ways i m]? = some m := by
  obtain ⟨t, ht⟩ := starts_prefix ways i (show m + 1 ≤ n from h)
  rw [ht, starts_succ, if_pos hf, List.append_assoc]
  unfold wid
  rw [List.getElem?_append_right (Nat.le_refl _), Nat.sub_self]
  rfl
theorem starts_get (ways : List (List ByteArray)) (i : Nat) {j n : Nat} (h : j < wid ways i n) : ∃ m, (starts ways i n)[j]? = some m ∧ m < n ∧ fresh ways i m = true ∧ wid ways i m = j := by
  induction n with
  | zero => rw [wid_zero] at h; omega
  | succ n ih =>
    rcases Nat.lt_or_ge j (wid ways i n) with h1 | h1
    · obtain ⟨m, h2, h3, h4, h5⟩ := ih h1
      refine ⟨m, ?_, by omega, h4, h5⟩
      rw [starts_succ, List.getElem?_append_left h1]
      exact h2
    · rw [wid_succ] at h
      by_cases hf : fresh ways i n = true
      · rw [if_pos hf] at h
        obtain rfl : j = wid ways i n := by omega
        exact ⟨n, starts_at ways i (Nat.lt_succ_self n) hf, Nat.lt_succ_self n, hf, rfl⟩
      · rw [if_neg hf] at h
        omega
theorem st_end (ways : List (List ByteArray)) (i j : Nat) (h : wid ways i ways.length ≤ j) : st ways i j = ways.length := by
  unfold st
  rw [List.getElem?_eq_none h]
  rfl
theorem st_spec (ways : List (List ByteArray)) (i j : Nat) (h : j < wid ways i ways.length) : st ways i j < ways.length ∧ fresh ways i (st ways i j) = true ∧ wid ways i (st ways i j) = j := by
  obtain ⟨m, h1, h2, h3, h4⟩ := starts_get ways i h
  unfold st
  rw [h1]
  exact ⟨h2, h3, h4⟩
theorem wid_st (ways : List (List ByteArray)) (i j : Nat) (h : j ≤ wid ways i ways.length) : wid ways i (st ways i j) = j := by
  rcases Nat.lt_or_ge j (wid ways i ways.length) with h1 | h1
  · exact (st_spec ways i j h1).2.2
  · rw [st_end ways i j h1]
    omega
theorem st_le (ways : List (List ByteArray)) (i j : Nat) : st ways i j ≤ ways.length := by
  rcases Nat.lt_or_ge j (wid ways i ways.length) with h1 | h1
  · exact Nat.le_of_lt (st_spec ways i j h1).1
  · rw [st_end ways i j h1]
    exact Nat.le_refl _
theorem st_lt (ways : List (List ByteArray)) (i : Nat) {j k : Nat} (h : j < k) (hk : k ≤ wid ways i ways.length) : st ways i j < st ways i k := by
  rcases Nat.lt_or_ge (st ways i j) (st ways i k) with h1 | h1
  · exact h1
  · have := wid_mono ways i h1
    rw [wid_st ways i j (by omega), wid_st ways i k hk] at this
    omega
theorem st_mono (ways : List (List ByteArray)) (i : Nat) {j k : Nat} (h : j ≤ k) (hk : k ≤ wid ways i ways.length) : st ways i j ≤ st ways i k := by
  rcases Nat.lt_or_ge j k with h1 | h1
  · exact Nat.le_of_lt (st_lt ways i h1 hk)
  · obtain rfl : j = k := by omega
    exact Nat.le_refl _
/-- A place where level i may begin anew: a fresh way, or the end. -/
def Stop (ways : List (List ByteArray)) (i m : Nat) : Prop := m = ways.length ∨ m < ways.length ∧ fresh ways i m = true
theorem st_stop (ways : List (List ByteArray)) (i j : Nat) : Stop ways i (st ways i j) := by
  rcases Nat.lt_or_ge j (wid ways i ways.length) with h1 | h1
  · have := st_spec ways i j h1
    exact .inr ⟨this.1, this.2.1⟩
  · exact .inl (st_end ways i j h1)
theorem st_wid (ways : List (List ByteArray)) (i : Nat) {m : Nat} (h : Stop ways i m) : st ways i (wid ways i m) = m := by
  rcases h with rfl | ⟨h1, h2⟩
  · exact st_end ways i _ (Nat.le_refl _)
  · unfold st
    rw [starts_at ways i h1 h2]
    rfl
theorem take_down {a b : List ByteArray} {i k : Nat} (h : a.take i = b.take i) (hk : k ≤ i) : a.take k = b.take k := by
  have h1 := congrArg (List.take k) h
  rw [List.take_take, List.take_take, Nat.min_eq_left hk] at h1
  exact h1
theorem fresh_up (ways : List (List ByteArray)) {i k m : Nat} (h : fresh ways i m = true) (hk : i ≤ k) : fresh ways k m = true := by
  unfold fresh at *
  simp only [Bool.or_eq_true, decide_eq_true_eq, Bool.not_eq_true', decide_eq_false_iff_not] at *
  rcases h with h | h
  · exact .inl h
  · exact .inr fun e => h (take_down e (by omega))
theorem Stop.up {ways : List (List ByteArray)} {i k m : Nat} (h : Stop ways i m) (hk : i ≤ k) : Stop ways k m := by
  rcases h with h | ⟨h1, h2⟩
  · exact .inl h
  · exact .inr ⟨h1, fresh_up ways h2 hk⟩
theorem fresh_zero (ways : List (List ByteArray)) (i : Nat) : fresh ways i 0 = true := rfl
theorem st_zero (ways : List (List ByteArray)) (i : Nat) : st ways i 0 = 0 := by
  have := st_wid ways i (m := 0) (by
    rcases Nat.eq_zero_or_pos ways.length with h | h
    · exact .inl h.symm
    · exact .inr ⟨h, rfl⟩)
  rwa [wid_zero] at this
/-- Between two ways of one node no way parts. -/
theorem same_node (ways : List (List ByteArray)) (i : Nat) {m k : Nat} (h : m ≤ k) (hw : wid ways i (m + 1) = wid ways i (k + 1)) : (wayAt ways m).take (i + 1) = (wayAt ways k).take (i + 1) := by
  induction k with
  | zero => rw [Nat.le_zero.1 h]
  | succ k ih =>
    rcases Nat.lt_or_ge m (k + 1) with h1 | h1
    · have h2 := wid_mono ways i (show m + 1 ≤ k + 1 by omega)
      have h3 := wid_succ ways i (k + 1)
      have hf : ¬ fresh ways i (k + 1) = true := by
        intro hf
        rw [if_pos hf] at h3
        omega
      rw [if_neg hf] at h3
      rw [ih (by omega) (by omega)]
      unfold fresh at hf
      simpa using hf
    · obtain rfl : m = k + 1 := by omega
      rfl
/-- The first way of a node: all ways of the node begin as it does. -/
theorem in_node (ways : List (List ByteArray)) (i j m : Nat) (hj : j < wid ways i ways.length) (h1 : st ways i j ≤ m) (h2 : m < st ways i (j + 1)) : wid ways i (m + 1) = j + 1 ∧ (wayAt ways m).take (i + 1) = (wayAt ways (st ways i j)).take (i + 1) := by
  have e1 : wid ways i (st ways i j + 1) = j + 1 := by
    have := st_spec ways i j hj
    rw [wid_succ, if_pos this.2.1, this.2.2]
  have e2 := wid_st ways i (j + 1) hj
  have e3 := wid_mono ways i (show m + 1 ≤ st ways i (j + 1) by omega)
  have e4 := wid_mono ways i (show st ways i j + 1 ≤ m + 1 by omega)
  exact ⟨by omega, (same_node ways i h1 (by omega)).symm⟩
/-- The place of a way. -/
def nd (ways : List (List ByteArray)) (i m : Nat) : Nat := wid ways i (m + 1) - 1
theorem nd_spec (ways : List (List ByteArray)) (i m : Nat) (hm : m < ways.length) : nd ways i m + 1 = wid ways i (m + 1) ∧ nd ways i m < wid ways i ways.length ∧ st ways i (nd ways i m) ≤ m ∧ m < st ways i (nd ways i m + 1) := by
  have h0 : 0 < wid ways i (m + 1) := by
    have := wid_mono ways i (show 1 ≤ m + 1 by omega)
    have h1 : wid ways i 1 = _ := wid_succ ways i 0
    rw [fresh_zero, if_pos rfl, wid_zero] at h1
    omega
  have h1 : nd ways i m + 1 = wid ways i (m + 1) := by unfold nd; omega
  have h2 := wid_mono ways i (show m + 1 ≤ ways.length by omega)
  refine ⟨h1, by omega, ?_, ?_⟩
  · rcases Nat.lt_or_ge m (st ways i (nd ways i m)) with h | h
    · have h3 := wid_mono ways i (show m + 1 ≤ st ways i (nd ways i m) by omega)
      rw [wid_st ways i _ (by omega)] at h3
      omega
    · exact h
  · rcases Nat.lt_or_ge m (st ways i (nd ways i m + 1)) with h | h
    · exact h
    · have hn : nd ways i m + 1 < wid ways i ways.length := by
        rcases Nat.lt_or_ge (nd ways i m + 1) (wid ways i ways.length) with h5 | h5
        · exact h5
        · rw [st_end ways i _ h5] at h
          omega
      have h6 := st_spec ways i _ hn
      have h4 := wid_succ ways i (st ways i (nd ways i m + 1))
      rw [if_pos h6.2.1, h6.2.2] at h4
      have h3 := wid_mono ways i (show st ways i (nd ways i m + 1) + 1 ≤ m + 1 by omega)
      omega
/-! The order of ways. -/
structure Ways (d : Nat) (ways : List (List ByteArray)) : Prop where
  rising : Rising ways
  len : ∀ r ∈ ways, r.length = d
theorem Ways.at {d : Nat} {ways : List (List ByteArray)} (h : Ways d ways) {m : Nat} (hm : m < ways.length) : ways[m]? = some (wayAt ways m) ∧ (wayAt ways m).length = d := by
  have h1 : ways[m]? = some ways[m] := List.getElem?_eq_getElem hm
  have h2 : wayAt ways m = ways[m] := by unfold wayAt; rw [h1]; rfl
  rw [h2]
  exact ⟨h1, h.len _ (List.getElem_mem hm)⟩
theorem Ways.lt {d : Nat} {ways : List (List ByteArray)} (h : Ways d ways) {m k : Nat} (hmk : m < k) (hk : k < ways.length) : cmpRow (wayAt ways m) (wayAt ways k) < 0 := by
  obtain ⟨h1, h2⟩ := List.getElem?_eq_some_iff.1 (h.at (show m < ways.length by omega)).1
  obtain ⟨h3, h4⟩ := List.getElem?_eq_some_iff.1 (h.at hk).1
  have := List.pairwise_iff_getElem.1 h.rising m k h1 h3 hmk
  rwa [h2, h4] at this
theorem cmp_take : ∀ (i : Nat) (x y : List ByteArray), x.length = y.length → cmpRow x y < 0 → cmpRow (x.take i) (y.take i) ≤ 0
  | 0, _, _, _, _ => by simp [cmpRow]
  | i + 1, [], [], _, _ => by simp [cmpRow]
  | i + 1, a :: x, [], h, _ => by simp at h
  | i + 1, [], b :: y, h, _ => by simp at h
  | i + 1, a :: x, b :: y, h, h2 => by
    rw [List.take_succ_cons, List.take_succ_cons, cmpRow]
    rw [cmpRow] at h2
    by_cases hc : cmpB a b ≠ 0
    · rw [if_pos hc] at h2 ⊢
      omega
    · rw [if_neg hc] at h2 ⊢
      exact cmp_take i x y (by simpa using h) h2
theorem cmp_le_anti {x y : List ByteArray} (h1 : cmpRow x y ≤ 0) (h2 : cmpRow y x ≤ 0) : x = y := by
  have := cmpRow_swap x y
  exact (cmpRow_zero x y).1 (by omega)
theorem Ways.take_le {d : Nat} {ways : List (List ByteArray)} (h : Ways d ways) (i : Nat) {m k : Nat} (hmk : m ≤ k) (hk : k < ways.length) : cmpRow ((wayAt ways m).take i) ((wayAt ways k).take i) ≤ 0 := by
  rcases Nat.lt_or_ge m k with h1 | h1
  · exact cmp_take i _ _ (by rw [(h.at (by omega : m < ways.length)).2, (h.at hk).2]) (h.lt h1 hk)
  · obtain rfl : m = k := by omega
    rw [(cmpRow_zero _ _).2 rfl]
    exact Int.le_refl _
/-- What lies between two ways that begin alike begins so too. -/
theorem Ways.between {d : Nat} {ways : List (List ByteArray)} (h : Ways d ways) {i m x k : Nat} (h1 : m ≤ x) (h2 : x ≤ k) (hk : k < ways.length) (he : (wayAt ways m).take i = (wayAt ways k).take i) : (wayAt ways x).take i = (wayAt ways m).take i := by
  refine cmp_le_anti ?_ (h.take_le i h1 (by omega))
  rw [he]
  exact h.take_le i h2 hk
theorem Ways.same_nd {d : Nat} {ways : List (List ByteArray)} (h : Ways d ways) {i m k : Nat} (hmk : m ≤ k) (hk : k < ways.length) (he : (wayAt ways m).take (i + 1) = (wayAt ways k).take (i + 1)) : wid ways i (m + 1) = wid ways i (k + 1) := by
  induction k with
  | zero => rw [Nat.le_zero.1 hmk]
  | succ k ih =>
    rcases Nat.lt_or_ge m (k + 1) with h1 | h1
    · have e := h.between (i := i + 1) (show m ≤ k by omega) (Nat.le_succ k) hk he
      rw [ih (by omega) (by omega) e.symm, wid_succ ways i (k + 1), if_neg]
      · rfl
      · unfold fresh
        simp
        rw [e, he]
    · obtain rfl : m = k + 1 := by omega
      rfl
/-- Two ways begin alike just if they go through one place. -/
theorem Ways.nd_iff {d : Nat} {ways : List (List ByteArray)} (h : Ways d ways) {i m k : Nat} (hm : m < ways.length) (hk : k < ways.length) : (wayAt ways m).take (i + 1) = (wayAt ways k).take (i + 1) ↔ nd ways i m = nd ways i k := by
  have e1 := (nd_spec ways i m hm).1
  have e2 := (nd_spec ways i k hk).1
  rcases Nat.le_total m k with hmk | hmk
  · constructor
    · intro he
      have := h.same_nd hmk hk he
      omega
    · intro he
      exact same_node ways i hmk (by omega)
  · constructor
    · intro he
      have := h.same_nd hmk hm he.symm
      omega
    · intro he
      exact (same_node ways i hmk (by omega)).symm
theorem cmp_next : ∀ (i : Nat) (x y : List ByteArray), i < x.length → i < y.length → x.take i = y.take i → x.take (i + 1) ≠ y.take (i + 1) → cmpRow x y < 0 → ltB (x[i]?.getD ⟨#[]⟩) (y[i]?.getD ⟨#[]⟩) = true
  | i, [], _, h, _, _, _, _ => by simp at h
  | i, _ :: _, [], _, h, _, _, _ => by simp at h
  | 0, a :: x, b :: y, _, _, _, h2, h3 => by
    simp only [List.getElem?_cons_zero, Option.getD_some]
    rw [cmpRow] at h3
    have hne : cmpB a b ≠ 0 := by
      intro e
      have := (cmpB_zero a b).1 e
      apply h2
      simp [this]
    rw [if_pos hne] at h3
    exact (cmpB_neg a b).1 h3
  | i + 1, a :: x, b :: y, h0, h1, h2, h3, h4 => by
    simp only [List.getElem?_cons_succ]
    rw [List.take_succ_cons, List.take_succ_cons] at h2 h3
    injection h2 with e1 e2
    subst e1
    rw [cmpRow, if_neg (by rw [(cmpB_zero a a).2 rfl]; simp)] at h4
    exact cmp_next i x y (by simpa using h0) (by simpa using h1) e2 (fun e => h3 (by rw [e])) h4
/-- The keys of ways that begin alike rise. -/
theorem Ways.key_lt {d : Nat} {ways : List (List ByteArray)} (h : Ways d ways) {i m k : Nat} (hi : i < d) (hmk : m < k) (hk : k < ways.length) (he : (wayAt ways m).take i = (wayAt ways k).take i) (hne : (wayAt ways m).take (i + 1) ≠ (wayAt ways k).take (i + 1)) : ltB (keyAt ways i m) (keyAt ways i k) = true :=
  cmp_next i _ _ (by rw [(h.at (by omega : m < ways.length)).2]; exact hi) (by rw [(h.at hk).2]; exact hi) he hne (h.lt hmk hk)
/-- All ways part at the depth. -/
theorem Ways.fresh_d {d : Nat} {ways : List (List ByteArray)} (h : Ways d ways) {i m : Nat} (hi : d ≤ i + 1) (hm : m < ways.length) : fresh ways i m = true := by
  rcases Nat.eq_zero_or_pos m with rfl | h0
  · rfl
  · unfold fresh
    have h1 := h.lt (show m - 1 < m by omega) hm
    have l1 := (h.at (show m - 1 < ways.length by omega)).2
    have l2 := (h.at hm).2
    rw [List.take_of_length_le (by omega), List.take_of_length_le (by omega)]
    have hne : wayAt ways (m - 1) ≠ wayAt ways m := by
      intro e
      rw [e, (cmpRow_zero _ _).2 rfl] at h1
      omega
    simp [hne]
theorem Ways.wid_d {d : Nat} {ways : List (List ByteArray)} (h : Ways d ways) {i m : Nat} (hi : d ≤ i + 1) (hm : m ≤ ways.length) : wid ways i m = m := by
  induction m with
  | zero => rfl
  | succ m ih => rw [wid_succ, if_pos (h.fresh_d hi (by omega)), ih (by omega)]
theorem keysM_succ (ways : List (List ByteArray)) (i n : Nat) : keysM ways i (n + 1) = if fresh ways i n = true then keysM ways i n ++ [keyAt ways i n] else keysM ways i n := by
  unfold keysM
  rw [starts_succ, List.map_append]
  split <;> simp
theorem fromM_succ (ways : List (List ByteArray)) (i n : Nat) : fromM ways i (n + 1) = if fresh ways i n = true then fromM ways i n ++ [wid ways (i + 1) n] else fromM ways i n := by
  unfold fromM
  rw [starts_succ, List.map_append]
  split <;> simp
theorem keysM_len (ways : List (List ByteArray)) (i n : Nat) : (keysM ways i n).length = wid ways i n := by unfold keysM; rw [List.length_map]; rfl
theorem fromM_len (ways : List (List ByteArray)) (i n : Nat) : (fromM ways i n).length = wid ways i n := by unfold fromM; rw [List.length_map]; rfl
theorem keysM_at (ways : List (List ByteArray)) (i j : Nat) (h : j < wid ways i ways.length) : (keysM ways i ways.length)[j]? = some (keyAt ways i (st ways i j)) := by
  obtain ⟨m, h1, _⟩ := starts_get ways i h
  unfold keysM st
  rw [List.getElem?_map, h1]
  rfl
theorem fromM_at (ways : List (List ByteArray)) (i j : Nat) (h : j ≤ wid ways i ways.length) : (fromM ways i ways.length ++ [wid ways (i + 1) ways.length])[j]? = some (wid ways (i + 1) (st ways i j)) := by
  rcases Nat.lt_or_ge j (wid ways i ways.length) with h1 | h1
  · rw [List.getElem?_append_left (by rw [fromM_len]; exact h1)]
    obtain ⟨m, h2, _⟩ := starts_get ways i h1
    unfold fromM st
    rw [List.getElem?_map, h2]
    rfl
  · obtain rfl : j = wid ways i ways.length := by omega
    rw [List.getElem?_append_right (by rw [fromM_len]; exact Nat.le_refl _), fromM_len, Nat.sub_self, st_end ways i _ (Nat.le_refl _)]
    rfl
end Go.Proofs.YtpgbenijjodoeaaGreat
namespace Go.Proofs.YtpgbenijjodoeaaGreat
open Go.ChangeShapes Go.WideShapes Go.ChangeAt Go.RowKit Go.Shelf
attribute [local go_sem] Oper.semAt_some
/-- The iterator over copies of the rows. -/
def EachRPost (rs : List (List ByteArray)) (w : World) (e : Ending) (w' : World) : Prop := ∃ bs a c vs, e = .returned (.func (.func 59) #[] #[.pointer (some ⟨bs, 0, none⟩)]) ∧ w.heap.size ≤ bs ∧ bs < w'.heap.size ∧ w'.cell? ⟨bs, 0, none⟩ = some (.slice a rs.length c) ∧ w'.ownsRow w.heap.size 46 1 (.slice a rs.length c) rs.length vs ∧ RowsAt w.heap.size w' vs rs ∧ Ext w w'
theorem c_eachR (lo pb ar : Nat) (rs : List (List ByteArray)) (w : World) (h : RowsV w lo pb ar rs) (hn : rs.length ≤ 1000000) (hr : ∀ r ∈ rs, r.length ≤ 1000000) :
    Calls Tryz.prog 12 #[.pointer (some ⟨pb, 0, none⟩)] w (EachRPost rs w) := by
  have AL := Lib.hid (c_all lo pb ar rs w h hn hr)
  clear h hn hr
  go_enter Tryz.func12, Tryz.ntmps12
  go_wp2_with (first
    | (go_at_call 32; (with_reducible refine AL.out.mono ?_); rintro e w1 ⟨a7, c7, vs, rfl, r7, h7, e7⟩)
    | (go_at_call 31; (with_reducible refine (c_values _ _ _ _).mono ?_); rintro e w2 ⟨rfl, hw2⟩; obtain rfl := hw2.symm))
  go_returns
  exact ⟨w1.heap.size, a7, c7, vs, rfl, e7.size, by simp, (Boxed.new w1 _ _).cell, up_ext r7 (ext_alloc (Below.refl _ _) _), h7.ext (ext_alloc (Below.refl _ _) _), ext_alloc e7 _⟩
/-- A row's constants in the order's columns. -/
def projM (os : List Int) (r : List ByteArray) : List ByteArray := os.map fun c => r[c.toNat]?.getD ⟨#[]⟩
theorem projM_len (os : List Int) (r : List ByteArray) : (projM os r).length = os.length := by simp [projM]
theorem projM_snoc {os : List Int} {k : Nat} {c : Int} (h : os[k]? = some c) (r : List ByteArray) {x : ByteArray} (hx : r[c.toNat]? = some x) : projM (os.take (k + 1)) r = projM (os.take k) r ++ [x] := by
  rw [take_at h]
  simp [projM, hx]
/-- A row being filled: k texts, the others empty. -/
def fillV (d : Nat) (xs : List ByteArray) : List Value := xs.map Value.string ++ List.replicate (d - xs.length) (.string ⟨#[]⟩)
theorem fillV_set {d : Nat} {xs : List ByteArray} (h : xs.length < d) (x : ByteArray) : (fillV d xs).set xs.length (.string x) = fillV d (xs ++ [x]) := by
  unfold fillV
  rw [List.set_append_right _ _ (by simp), List.length_map, Nat.sub_self, List.map_append, List.append_assoc, List.length_append, List.length_singleton]
  obtain ⟨m, hm⟩ : ∃ m, d - xs.length = m + 1 := ⟨d - xs.length - 1, by omega⟩
  rw [hm, List.replicate_succ, List.set_cons_zero, show d - (xs.length + 1) = m by omega]
  rfl
theorem fillV_full {d : Nat} {xs : List ByteArray} (h : xs.length = d) : fillV d xs = xs.map Value.string := by simp [fillV, h]
theorem made_one (d : Nat) (r : List ByteArray) : (madeCells (Value.string ⟨#[]⟩).cells d).toList = fillV d (projM ([].take 0) r) := by
  apply List.ext_getElem
  · simp [madeCells, fillV, projM]
  · intro i h1 h2
    simp [madeCells, fillV, projM, Value.cells, Nat.mod_one]
def ProjPost (os : List Int) (rs : List (List ByteArray)) (w : World) (e : Ending) (w' : World) : Prop := ∃ a c us ways, e = .returned (.slice a ways.length c) ∧ w'.ownsRow w.heap.size 46 1 (.slice a ways.length c) ways.length us ∧ RowsAt w.heap.size w' us ways ∧ Ext w w' ∧ Ways os.length ways ∧ (∀ x, x ∈ ways ↔ ∃ r ∈ rs, projM os r = x) ∧ ways.length ≤ rs.length
set_option maxRecDepth 100000 in
set_option maxHeartbeats 4000000 in
theorem c_projected (lo pb ar : Nat) (rs : List (List ByteArray)) (os : List Int) (ao : Option Addr) (d co : Nat) (w : World) (h : RowsV w lo pb ar rs) (hn : rs.length ≤ 1000000) (hr : ∀ r ∈ rs, r.length = ar) (har : ar ≤ 64) (ho : IntsAt w ao d os) (hv : ∀ c ∈ os, 0 ≤ c ∧ c < (ar : Int)) (hd : d ≤ 64) :
    Calls Tryz.prog 115 #[.pointer (some ⟨pb, 0, none⟩), .slice ao d co] w (ProjPost os rs w) := by
  obtain ⟨i0, hi, hz0, hz1, hz2⟩ := info_parts info_row
  obtain ⟨j0, hj, yz0, yz1, yz2⟩ := info_parts info_str
  refine (callsIn_wide (n := 5)).1 ?_
  refine callsIn_of_wp_marks Tryz.func115 rfl trivial ?_
  simp only [Tryz.ntmps115, List.size_toArray, List.length_cons, List.length_nil, Nat.reduceAdd, Nat.reduceSub, Array.replicate_succ, Array.replicate_zero, List.push_toArray, List.append_toArray, List.nil_append, List.cons_append]
  obtain ⟨w1, hw1⟩ : ∃ w1, w1 = (w.alloc (.cells #[.slice ao d co] 58)).alloc (.cells #[.slice none 0 0] 64) := ⟨_, rfl⟩
  have hE1 : Ext w w1 := by rw [hw1]; exact ext_alloc (ext_alloc (Below.refl _ w) _) _
  have EA := Lib.hid (c_eachR lo pb ar rs w1 (h.ext hE1) hn (fun r hr2 => by have := hr r hr2; omega))
  have HR := Lib.hid hr
  have HO := Lib.hid ho
  have HV := Lib.hid hv
  clear h hr ho hv
  gi_wp2_with (first
    | (refine ⟨trivial, ?_⟩; gi_at_call 12; rw [← hw1]; refine (callsIn_wide.2 EA.out).mono ?_; rintro e w2 ⟨bs, a2, c2, vs, rfl, hb1, hb2, hb3, hb4, hb5, hb6⟩))
  have sz1 : w1.heap.size = w.heap.size + 2 := by rw [hw1]; simp
  have sz2 : w.heap.size + 2 ≤ w2.heap.size := by have := hb6.size; omega
  have hbx0 : Boxed w1 (w.heap.size + 1) 64 (.slice none 0 0) := by
    have := Boxed.new (w.alloc (.cells #[.slice ao d co] 58)) 64 (.slice none 0 0)
    rw [hw1]
    simpa using this
  have hbx := boxed_ext hbx0 hb6
  have hco1 : w1.cell? ⟨w.heap.size, 0, none⟩ = some (.slice ao d co) := by
    rw [hw1]
    exact keep (ext_alloc (Below.refl _ _) _) (Boxed.new w 58 (.slice ao d co)).cell
  have HCO := Lib.hid hco1
  have HE1 := Lib.hid hE1
  have h1v : ∀ v ∈ vs, ∃ a m c, v = Value.slice a m c := fun v hv => by
    obtain ⟨k, hk⟩ := List.mem_iff_getElem?.1 hv
    have hkl := (List.getElem?_eq_some_iff.1 hk).1
    obtain ⟨r, hrr⟩ : ∃ r, rs[k]? = some r := ⟨_, List.getElem?_eq_getElem (by have := hb5.1; omega)⟩
    obtain ⟨a, c, e, _⟩ := own_form (hb5.2 k r v hrr hk)
    exact ⟨a, _, c, e⟩
  have HW1 := Lib.hid hw1
  clear hw1 hbx0 hco1
  refine wpIn_rangeFunc_ownG (F := Fence.wide) rfl (by omega) (gf := 59) (lb := #[.pointer (some ⟨bs, 0, none⟩)]) rfl trivial (enters_of Tryz.func59 (by kernel_rfl) rfl)
    (values_stops Fence.wide 4 trivial rfl (by omega) bs _ rs.length c2 a2 vs w2 hb4 h1v hn (fun b => b = w.heap.size + 1 ∨ w2.heap.size ≤ b) (fun b e => by have := hb4.lt b e; omega) hb2 hb3) (fun h k => h.trans k) (fun W l o o' hl _ _ _ => ButS.putObj W o' (.inr hl)) (Below.refl _ _) (fun _ => rfl)
    (fun pre W => BoxRows w2.heap.size (w.heap.size + 1) ((nthRows rs pre).map (projM os)) W ∧ RowsAt w1.heap.size W vs rs ∧ w2.heap.size ≤ W.heap.size ∧ Below (w.heap.size + 1) w1 W)
    (fun _ _ _ => False)
    ?own
    (fun _ _ _ _ _ hs _ _ => hs)
    ⟨⟨[], none, 0, hbx, World.ownsRow_nil _ _ _ _, rfl, fun i r v h => by simp [nthRows] at h⟩, hb5, Nat.le_refl _, hb6.mono (by omega)⟩
    (fun x => { tmps := #[.pointer (some ⟨pb, 0, none⟩), .slice ao d co, undef, .pointer (some ⟨w.heap.size, 0, none⟩), .slice none 0 0, .pointer (some ⟨w.heap.size + 1, 0, none⟩), vs[x.1]?.getD undef, undef, undef, undef, .pointer (some ⟨pb, 0, none⟩), .func (.func 59) #[] #[.pointer (some ⟨bs, 0, none⟩)], vs[x.1]?.getD undef, undef, undef, undef, undef, undef, undef, undef, undef, undef, undef, undef, undef, undef, undef, undef, undef, undef, undef, undef, undef, undef, undef, undef, undef, undef, undef], defers := [] }) ?assign ?body ?done ?stop
  case own =>
    refine OwnFrom.and (Own.from (fun s A B row hs hg hr => hs.keptN hg hr) _) (OwnFrom.and (Own.from (fun s A B row hs hg hr => hs.keptN hg hr) _) (OwnFrom.and (fun s A B row hs hg hr => Nat.le_trans hs hg.size) (ownFrom_below (by omega) (by omega))))
  case assign =>
    intro l x W K hK
    gi_wp2
    exact hK
  case body =>
    rintro l pre x W ⟨⟨us, a9, c9, bx9, row9, at9⟩, hvs, hsz, hE⟩ hlt
    obtain ⟨r, hr1⟩ : ∃ r, rs[x.1]? = some r := ⟨_, List.getElem?_eq_getElem x.2⟩
    obtain ⟨v, hv1⟩ : ∃ v, vs[x.1]? = some v := ⟨_, List.getElem?_eq_getElem (by rw [hvs.1]; exact x.2)⟩
    have hrl := HR.out r (List.mem_of_getElem? hr1)
    have ho1 := hvs.2 _ r v hr1 hv1
    obtain ⟨a7, c7, rfl, _⟩ := own_form ho1
    have hpl : ((nthRows rs pre).map (projM os)).length = pre.length := by simp [nthRows]
    have hv2 : vs[x.1]?.getD undef = .slice a7 r.length c7 := by rw [hv1]; rfl
    rw [hv2]
    obtain ⟨qs, hqs⟩ : ∃ qs, (nthRows rs pre).map (projM os) = qs := ⟨_, rfl⟩
    have HQS : Hid ((nthRows rs (pre ++ [x])).map (projM os) = qs ++ [projM os r]) := by show _ = _; rw [nthRows_snoc rs pre x hr1, List.map_append, hqs]; rfl
    rw [hqs] at bx9 row9 at9 hpl
    have HST := Lib.hid (own_strs ho1 (own_len ho1).1)
    have hc9 := bx9.cell
    have hBW := bx9.lt
    have VS := Lib.hid hvs
    have hEW : Ext w W := HE1.out.trans (hE.mono (by omega))
    have hco : W.cell? ⟨w.heap.size, 0, none⟩ = some (.slice ao d co) := by
      rw [hE.cell (p := ⟨w.heap.size, 0, none⟩) (Nat.lt_succ_self _)]
      exact HCO.out
    have HOW := Lib.hid (HO.out.keep hEW)
    have hod : os.length = d := HO.out.2.1
    have hql : qs.length ≤ 1000000 := by omega
    obtain ⟨wm, hm, om, gm⟩ := run_make_full (P := Tryz.prog) W W.heap.size 46 9 j0 (.string ⟨#[]⟩) 1 Tryz.underlying46 hj yz0 yz1 .i64 .i64 d (by rw [yz2]; omega) (by unfold maxLen; omega) (Nat.le_refl _)
    have hEm : Ext W wm := ⟨gm.os, gm.tape, gm.output, gm.size, fun i hi => gm.block i hi (by simp)⟩
    have hcom := keep hEm hco
    have HCO9 := Lib.hid (keep hEm hc9)
    have HEm := Lib.hid hEm
    have HOM : Hid (wm.ownsRow W.heap.size 9 1 (.slice (some ⟨W.heap.size, 0, none⟩) d d) d (fillV d (projM (os.take 0) r))) := by
      show World.ownsRow _ _ _ _ _ _ _
      have e : (madeCells (Value.string ⟨#[]⟩).cells (d * 1)).toList = fillV d (projM (os.take 0) r) := by
        rw [Nat.mul_one]
        exact made_one _ _
      rw [← e]
      exact om
    clear hv2 hqs hvs hpl om hEm gm
    gi_wp2
    gi_loopw [18] (fun v18 wj => ∃ k : Nat, k ≤ d ∧ v18 = .int .i64 (k : Int) ∧ wj.ownsRow W.heap.size 9 1 (.slice (some ⟨W.heap.size, 0, none⟩) d d) d (fillV d (projM (os.take k) r)) ∧ Ext W wj) (fun v18 _ => d - (intOf v18).toNat)
    case atStart => exact ⟨0, by omega, rfl, HOM.out, HEm.out⟩
    case round =>
      obtain ⟨k, hk, rfl, hown, hEj⟩ := hrel
      have HOJ := Lib.hid hown
      have HEJ := Lib.hid hEj
      clear hown hEj
      have hpk : (projM (os.take k) r).length = k := by rw [projM_len, List.length_take]; omega
      have HPK := Lib.hid hpk
      by_cases hlt : k < d
      · have hki : (k : Int) < (d : Int) := by omega
        obtain ⟨c, b1, o1, hx, rfl, h1⟩ := (HOW.out.keep HEJ.out).2.at hlt
        obtain ⟨hc0, hc1⟩ := HV.out c (List.mem_of_getElem? hx)
        obtain ⟨m, rfl⟩ : ∃ m : Nat, c = (m : Int) := ⟨c.toNat, by omega⟩
        have HX := Lib.hid hx
        have g1 : wr.cell? ⟨b1, o1 + k, none⟩ = some (.int .i64 (m : Int)) := by simpa [intAt] using h1
        clear hx h1
        obtain ⟨t, b2, o2, ht, rfl, h2⟩ := (HST.out.keep HEJ.out).2.at (i := m) (by omega)
        have HT := Lib.hid ht
        have g2 : wr.cell? ⟨b2, o2 + m, none⟩ = some (.string t) := by simpa [strAt] using h2
        clear ht h2
        have g3 : wr.cell? ⟨W.heap.size, k, none⟩ = some (.string ⟨#[]⟩) := by
          have := HOJ.out.cells (g := W.heap.size) rfl k (.string ⟨#[]⟩) (by
            unfold fillV
            rw [List.getElem?_append_right (by rw [List.length_map, hpk]; exact Nat.le_refl _), List.length_map, hpk, Nat.sub_self, List.getElem?_replicate, if_pos (by omega)])
          rwa [Addr.add_lit, Nat.zero_add] at this
        have g4 : wr.frozen? ⟨W.heap.size, k, none⟩ = false := HOJ.out.frozenAt _
        clear hpk
        gi_wp2
        go_roundw
        case rel =>
          have s1 := (HOJ.out.stored k (.string t)).1
          have e : (fillV d (projM (os.take k) r)).set k (.string t) = fillV d (projM (os.take (k + 1)) r) := by
            rw [projM_snoc HX.out r HT.out, ← fillV_set (by rw [HPK.out]; exact hlt), HPK.out]
          rw [e] at s1
          exact ⟨k + 1, by omega, by go_num, s1, HEJ.out.setCell (Nat.le_refl _) _⟩
        case measure => simp [intOf]; omega
      · obtain rfl : k = d := by omega
        have hge : ¬ (k : Int) < (k : Int) := by omega
        have bxW := boxed_ext bx9 HEJ.out
        have hc10 := bxW.cell
        have HROW := Lib.hid ((up_ext row9 HEJ.out).alloc (.cells #[.slice (some ⟨W.heap.size, 0, none⟩) k k] 46))
        have HOJ2 : Hid (wr.ownsRow W.heap.size 9 1 (.slice (some ⟨W.heap.size, 0, none⟩) k k) (projM os r).length ((projM os r).map Value.string)) := by
          have h2 := HOJ.out
          rw [fillV_full HPK.out] at h2
          have e : os.take k = os := List.take_of_length_le (by omega)
          rw [e] at h2
          show World.ownsRow _ _ _ _ _ _ _
          rw [projM_len, hod]
          exact h2
        have n3 := cell_one_new wr (.slice (some ⟨W.heap.size, 0, none⟩) k k) 46
        have hsz2 := HEJ.out.size
        gi_wp2_with (gi_at_builtin; refine wpListIn_append_own _ rfl _ _ 64 rfl w2.heap.size 46 i0 (.slice none 0 0) 1 24 Tryz.underlying64 hi hz0 hz1 hz2 rfl (by decide) (.slice a9 qs.length c9) qs.length us rfl HROW.out ⟨wr.heap.size, 0, none⟩ 1 1 [.slice (some ⟨W.heap.size, 0, none⟩) k k] rfl rfl n3 (by simp [Value.oneCell']) (by unfold maxLen; omega) (by omega) (by simp; omega) ?_; intro v' w1' hown' hgrow _; obtain ⟨g', cap', rfl⟩ := ownsRow_succ hown'; obtain ⟨p1, p2, p3, p4, p5, p6⟩ := BoxRows.push (n0 := w.heap.size + 1) bxW (up_ext row9 HEJ.out) (at9.ext HEJ.out) (own_base HOJ2.out hsz) hown' hgrow (by omega) (Nat.le_refl _) (by omega); have hc1 := p1.cell; have hf1 := p1.frozen)
        exact ⟨((KeepsOthers.ext HEJ.out).trans p3).from _, ((ButS.refl _ W).ext HEJ.out).trans p5, by rw [HQS.out]; exact p2, p6 _ _ _ (sz1 ▸ VS.out.ext HEJ.out), by have := p5.size; omega, hE.trans ((HEJ.out.mono (by have := hE.size; omega)).trans p4)⟩
  case done =>
    rintro D ys W hD rfl ⟨⟨us, a9, c9, bx9, row9, at9⟩, hvs, hsz, hE⟩ hK
    rw [nthRows_to rs (Nat.le_refl _), List.take_length] at bx9 row9 at9
    rw [List.length_map] at bx9 row9
    have hc9 := bx9.cell
    obtain ⟨wz, hwz⟩ : ∃ wz, rs.map (projM os) = wz := ⟨_, rfl⟩
    have HWZ := Lib.hid hwz
    rw [hwz] at at9
    have HR9 := Lib.hid row9
    have SO := Lib.hid (c_sort w2.heap.size a9 rs.length c9 us wz W row9 at9 hn)
    have CO : Hid (∀ us3 ws3 w3, w3.ownsRow w2.heap.size 46 1 (.slice a9 rs.length c9) rs.length us3 → RowsAt w2.heap.size w3 us3 ws3 → Calls Tryz.prog 134 #[.slice a9 rs.length c9, .func (.func 135) #[] #[]] w3 (CompPost w2.heap.size a9 rs.length c9 ws3 w3)) := fun us3 ws3 w3 h1 h2 => c_compact w2.heap.size a9 rs.length c9 us3 ws3 w3 h1 h2 hn
    have keepB : ∀ w3, ButS (fun b => (Value.slice a9 rs.length c9).ownBlock = some b) W w3 → w3.cell? ⟨w.heap.size + 1, 0, none⟩ = some (.slice a9 rs.length c9) := fun w3 h => h.cell (fun e => bx9.not_row (by decide) row9 e.symm) hc9
    have KB := Lib.hid keepB
    clear hwz at9 row9 keepB
    gi_wp2_with (first
      | (refine ⟨trivial, ?_⟩; gi_at_call 132; refine (callsIn_wide.2 SO.out).mono ?_; rintro e w3 ⟨rfl, us3, ws3, r3, at3, pm3, so3, b3⟩; have hc3 := KB.out _ b3)
      | (refine ⟨trivial, ?_⟩; gi_at_call 134; refine (callsIn_wide.2 (CO.out _ _ _ r3 at3)).mono ?_; rintro e w4 ⟨us4, rfl, r4, at4, b4⟩))
    have hD3 : ∀ {w5 w6 : World} {us5 : List Value} {m : Nat}, w5.heap[D]? = some (.deferred (some [])) → w5.ownsRow w2.heap.size 46 1 (.slice a9 m c9) m us5 → ButS (fun b => (Value.slice a9 m c9).ownBlock = some b) w5 w6 → w6.heap[D]? = some (.deferred (some [])) := fun {w5 w6 us5 m} h1 h2 h3 => by
      rw [← h1]
      refine h3.block D (Array.getElem?_eq_some_iff.1 h1).1 fun e => ?_
      rcases h2.2 with ⟨e1, _⟩ | ⟨g, c', cur, e1, _, hg, _⟩
      · cases e1
        cases e
      · cases e1
        cases e
        rw [hg] at h1
        cases h1
    have hK4 := hD3 (hD3 hK HR9.out b3) r3 b4
    have hg := grownBy_putObj' w4 D (.deferred none)
    have hr4 : ∀ r, some D = some r → ∃ o : Obj, w4.heap[r]? = some o ∧ o.isCells = false := fun r e => by cases e; exact ⟨_, hK4, rfl⟩
    have at10 := at4.keptN hg hr4
    have eW : Ext w W := HE1.out.trans (hE.mono (by omega))
    obtain ⟨m1, m2⟩ := cmpt_spec ws3 so3
    have hmem : ∀ x, x ∈ cmpt ws3 ↔ ∃ r ∈ rs, projM os r = x := fun x => by
      rw [m2, pm3.mem_iff, ← HWZ.out, List.mem_map]
    have hlen : (cmpt ws3).length ≤ rs.length := by
      have h1 := cmpt_len ws3
      rw [pm3.length_eq, ← HWZ.out, List.length_map] at h1
      exact h1
    have hbut : ButS (fun b => w2.heap.size ≤ b) W (w4.putObj D (.deferred none)) := ((b3.trans b4).mono (fun b _ e => (HR9.out.lt b e).1)).trans (ButS.putObj w4 _ hD)
    have eF : Ext w (w4.putObj D (.deferred none)) := ext_of_but eW hbut (fun b hb => by omega)
    refine ⟨by simp, .inl ⟨_, _, rfl, run_takeDeferred hK4, ?_⟩⟩
    exact ⟨_, results_tmp rfl _ _ _, a9, c9, us4, cmpt ws3, rfl, own_base (own_keptN r4 hg hr4) (by omega), ⟨at10.1, fun i r v h1 h2 => own_base (at10.2 i r v h1 h2) (by omega)⟩, eF, ⟨m1, fun x hx => by obtain ⟨r, _, rfl⟩ := (hmem x).1 hx; exact projM_len os r⟩, hmem, hlen⟩
  case stop =>
    rintro D c pre W _ _ h _
    exact h.elim
end Go.Proofs.YtpgbenijjodoeaaGreat
namespace Go.Proofs.YtpgbenijjodoeaaGreat
open Go.ChangeShapes Go.WideShapes Go.ChangeAt Go.RowKit Go.Shelf
/-- The loop's record. -/
def loopOf (fn : FuncId) (tmps : Array Value) (ps : Array Tmp) (assign body : Code) (D : Nat) (s : LoopState) (p : Option Code) : Loop := { state := s, pending := p, fn := fn, tmps := tmps, params := ps, assign := assign, body := body, defers := D }
/-- What is asked at a round's end. -/
def rndPost (l : Nat) (r : LoopState → Option Code → Loop) (R : Ending → World → Prop) : Exit → Act → World → Prop
  | .normal, _, W => W.heap[l]? = some (.loop (r .busy none)) ∧ R (.returned (.bool true)) (W.putObj l (.loop (r .ready none)))
  | .exit id, _, W => W.heap[l]? = some (.loop (r .busy none)) ∧ R (.returned (.bool false)) (W.putObj l (.loop (r .done (some (.exit id)))))
  | .ret, _, W => W.heap[l]? = some (.loop (r .busy none)) ∧ R (.returned (.bool false)) (W.putObj l (.loop (r .done (some .ret))))
  | _, _, _ => False
/-- One round, from the walk of what is assigned and of the body. -/
theorem round_of {n l D : Nat} {P : Program} {fn : FuncId} {tmps : Array Value} {ps : Array Tmp} {assign body : Code} {args : Array Value} {W : World} {R : Ending → World → Prop} (hl : W.heap[l]? = some (.loop (loopOf fn tmps ps assign body D .ready none))) (hs : args.size = ps.size)
    (h : assign.wpIn (Fence.wide.inRound l) n P (Exit.then (fun a w => w = W ∧ body.wpIn (Fence.wide.inRound l) n P (rndPost l (loopOf fn tmps ps assign body D) R) a (W.putObj l (.loop (loopOf fn tmps ps assign body D .busy none)))) (fun _ _ _ => False)) { tmps := (ps.zip args).foldl (fun t (p, v) => t.setIfInBounds p v) tmps, defers := [] } W) :
    YieldAt Fence.wide n P l args W R := by
  refine ⟨_, _, _, _, run_yield hl hs, roundIn_of_wpIn trivial (wpIn_mono h ?_)⟩
  intro e a w he
  cases e with
  | normal =>
    obtain ⟨rfl, hb⟩ := he
    refine ⟨_, run_beginRound hl rfl, wpIn_mono hb ?_⟩
    intro e a w he
    cases e with
    | normal => exact ⟨_, _, run_endRound none he.1, he.2⟩
    | exit id => exact ⟨_, _, run_endRound (some (.exit id)) he.1, he.2⟩
    | ret => exact ⟨_, _, run_endRound (some .ret) he.1, he.2⟩
    | goto t => exact he.elim
    | panic c => exact he.elim
    | outgrown => exact he.elim
  | exit id => exact he.elim
  | ret => exact he.elim
  | goto t => exact he.elim
  | panic c => exact he.elim
  | outgrown => exact he.elim
/-- The statement: the record is laid, the iterator runs, the record is closed. -/
theorem range_of {n gf : Nat} {P : Program} {g : Operand} {ps : Array Tmp} {assign body : Code} {Q : Exit → Act → World → Prop} {a : Act} {w : World} {lb : Array Value} (h1 : 1 ≤ n) (hg : a.eval g = .func (.func gf) #[] lb) (eg : ∀ args w, (callFunc gf args).run P w = .ok (.enter gf args) w)
    (h : ∀ fn, CallsIn Fence.wide (n - 1) P gf (#[.func (.yield (w.heap.size + 1)) #[] #[]] ++ lb) ((w.alloc (.deferred (some []))).alloc (.loop (loopOf fn a.tmps ps assign body w.heap.size .ready none))) fun e W => (∃ v, e = .returned v) ∧ ∃ s p, s ≠ LoopState.busy ∧ W.heap[w.heap.size + 1]? = some (.loop (loopOf fn a.tmps ps assign body w.heap.size s p)) ∧
      ((p = none ∧ Q .normal { a with defers := { target := .collected w.heap.size, args := #[] } :: a.defers } (W.putObj (w.heap.size + 1) (.loop (loopOf fn a.tmps ps assign body w.heap.size .exhausted p)))) ∨
       (∃ c, p = some c ∧ c.wpIn Fence.wide n P Q { a with defers := { target := .collected w.heap.size, args := #[] } :: a.defers } (W.putObj (w.heap.size + 1) (.loop (loopOf fn a.tmps ps assign body w.heap.size .exhausted p)))))) :
    (Code.rangeFunc g ps assign body).wpIn Fence.wide n P Q a w := by
  have hro : Fence.wide.round = none := rfl
  refine wpIn_rangeFunc ?_
  intro fn _
  rw [hro]
  have H := h fn
  have EL := run_enterLoop_outer (P := P) (w := w) fn a.tmps ps assign body
  obtain ⟨W1, hW1⟩ : ∃ W1, (w.alloc (.deferred (some []))).alloc (.loop (loopOf fn a.tmps ps assign body w.heap.size .ready none)) = W1 := ⟨_, rfl⟩
  rw [hW1] at H
  refine ⟨w.heap.size + 1, [{ target := .collected w.heap.size, args := #[] }], W1, { target := .fn (.func gf) lb, args := #[.func (.yield (w.heap.size + 1)) #[] #[]] }, W1, gf, #[.func (.yield (w.heap.size + 1)) #[] #[]] ++ lb, W1, ?_, ?_, ?_, ?_, ?_, ?_⟩
  · rw [← hW1]
    exact EL
  · simp only [resolve, hg]
    simp [go_sem]
  · exact fun _ _ => trivial
  · simp [invoke, go_sem, eg]
  · exact fun _ => h1
  · refine H.mono ?_
    rintro e W ⟨⟨v, rfl⟩, s, p, hs, hl, hq⟩
    have EN := run_endLoop (P := P) hl hs
    have e : ({ loopOf fn a.tmps ps assign body w.heap.size s p with state := .exhausted } : Loop) = loopOf fn a.tmps ps assign body w.heap.size .exhausted p := rfl
    rw [e] at EN
    obtain ⟨W2, hW2⟩ : ∃ W2, W.putObj (w.heap.size + 1) (.loop (loopOf fn a.tmps ps assign body w.heap.size .exhausted p)) = W2 := ⟨_, rfl⟩
    rw [hW2] at EN hq
    refine ⟨p, W2, EN, ?_⟩
    rcases hq with ⟨rfl, hq⟩ | ⟨c, rfl, hq⟩
    · exact hq
    · exact hq
end Go.Proofs.YtpgbenijjodoeaaGreat
namespace Go.Proofs.YtpgbenijjodoeaaGreat
open Go.ChangeShapes Go.WideShapes Go.ChangeAt Go.RowKit Go.Shelf
theorem rows_in {n l : Nat} {P : Program} {row : String} {args : Array Value} {w : World} {R : Value → World → Prop} (h : Rows P row args w R) : RowsIn (Fence.wide.inRound l) n P row args w R := fun c cs _ =>
  let ⟨v, w', r, s⟩ := h c cs
  ⟨v, w', r, stepsIn_wide.2 s⟩
theorem oper_in {l n : Nat} {P : Program} {o : Oper} {a : Act} {w : World} {K : Act → World → Prop} {Q : Exit → Act → World → Prop} (hd : ∀ c, o.op ≠ .defer c) (h : o.wp P a w K Q) : o.wpIn (Fence.wide.inRound l) n P a w K Q := by
  unfold Oper.wpIn
  refine ⟨fun _ _ => trivial, ?_⟩
  rw [show (Fence.wide.inRound l).round = some l from rfl, Oper.semAt_some l _ _ hd]
  unfold Oper.wp at h
  generalize (execOp a.eval o).run P w = r at h ⊢
  cases r with
  | ok x w' =>
    cases x with
    | value v => exact h
    | skip => exact h
    | defer d => exact h
    | enter f args => exact ⟨fun q => absurd (show (none : Option Nat).isSome = true from q) (by simp), (callsIn_wide.2 h).inRound l⟩
    | row row args => exact ⟨fun q => absurd (show (none : Option Nat).isSome = true from q) (by simp), rows_in h⟩
    | round l' f tmps assign body => exact h.elim
    | _ => exact h.elim
  | halt x w' => cases x <;> exact h
theorem any_in {l n : Nat} {P : Program} {md : Region.Mode} {ops : Array Oper} {Q : Exit → Act → World → Prop} (hd : ∀ o ∈ ops, ∀ c, o.op ≠ .defer c) (hno : ¬ LetsOut Q) : ∀ (fuel : Nat) (listed : Array Bool) (a : Act) (w : World), wpAny P md ops Q fuel listed a w → wpAnyIn (Fence.wide.inRound l) n P md ops Q fuel listed a w
  | 0, _, _, _, h => h
  | fuel + 1, listed, a, w, h => ⟨h.1, fun i hi => by
      have h1 := h.2 i hi
      unfold wpOp at h1
      unfold wpOpIn
      cases ho : ops[i]? with
      | none =>
        rw [ho] at h1
        exact any_in hd hno fuel _ a w h1
      | some o =>
        rw [ho] at h1
        simp only at h1 ⊢
        by_cases hw : Region.wanted o (yielded ops a.tmps) = true
        · rw [if_pos hw] at h1 ⊢
          rcases h1 with h1 | h1
          · exact oper_in (hd o (Array.mem_of_getElem? ho)) (Oper.wp_mono (fun a w hh => any_in hd hno fuel _ a w hh) h1)
          · exact absurd h1.2 hno
        · rw [if_neg hw] at h1 ⊢
          exact ⟨fun _ _ => trivial, any_in hd hno fuel _ _ w h1⟩⟩
/-- A region in a round, with a condition S on the world: whatever yields in all worlds of S is taken first. -/
theorem region_in {l n id : Nat} {P : Program} {ops : Array Oper} {Q : Exit → Act → World → Prop} {a : Act} {w : World} (S : World → Prop) (hm : P.follows .mixedOrders = true) (hd : (ops.all fun o => match o.op with | .defer _ => false | _ => true) = true) (hno : ¬ LetsOut Q) (hS : S w.drew)
    (h : S w.drew → wpAnyH P .any ops Q S ops.size (Array.replicate ops.size false) a w.drew) : (Code.region id ops true).wpIn (Fence.wide.inRound l) n P Q a w :=
  wpIn_region_any hm (any_in (fun o ho c hc => by
    have := Array.all_eq_true'.1 hd o ho
    rw [hc] at this
    cases this) hno _ _ _ _ (wpAny_of_held _ _ _ _ (h hS)))
end Go.Proofs.YtpgbenijjodoeaaGreat
