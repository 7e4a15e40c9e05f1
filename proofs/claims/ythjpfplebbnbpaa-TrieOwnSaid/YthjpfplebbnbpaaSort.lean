/- slices.SortFunc at rows, by the shelf's contract: a permutation, sorted. -/
import Derived.Test.YthjpfplebbnbpaaComp
import Derived.Shelf.SlSortCmp.Whole1
import Derived.Shelf.SlSortCmp.NoneTotal
import Derived.Shelf.SlGeneric
import Derived.Ground.SlsfProg
namespace Go.Proofs.Ythjpfplebbnbpaa
open Go.ChangeShapes Go.WideShapes Go.ChangeAt Go.RowKit
def Try.sortR_ren : Go.Shelf.Ren := ⟨fun | 6 => 66 | 15 => 82 | 14 => 81 | 28 => 94 | 29 => 95 | 20 => 86 | 21 => 87 | 22 => 88 | 23 => 89 | 24 => 90 | 25 => 91 | 26 => 92 | 27 => 93 | 46 => 98 | 47 => 99 | 48 => 100 | 49 => 101 | 50 => 102 | 57 => 103 | n => n, fun | 22 => 22 | 24 => 33 | 25 => 36 | 3 => 3 | 39 => 105 | 0 => 0 | 53 => 121 | 55 => 123 | 4 => 4 | 46 => 115 | 45 => 114 | 50 => 81 | 5 => 5 | 9 => 9 | 66 => 126 | 70 => 130 | 76 => 132 | 77 => 133 | n => n, fun | n => n⟩
theorem Try.sortR : Go.Proofs.SlLaysF.n6 Try.prog Try.sortR_ren := {
  mixed := by kernel_rfl, f6 := ⟨Try.f66.name, by decide, Try.func66.trans (congrArg some (by kernel_rfl))⟩, f14 := ⟨Try.f81.name, by decide, Try.func81.trans (congrArg some (by kernel_rfl))⟩, f15 := Try.func82.trans (congrArg some (by kernel_rfl)), f20 := ⟨Try.f86.name, by decide, Try.func86.trans (congrArg some (by kernel_rfl))⟩, f21 := ⟨Try.f87.name, by decide, Try.func87.trans (congrArg some (by kernel_rfl))⟩, f22 := ⟨Try.f88.name, by decide, Try.func88.trans (congrArg some (by kernel_rfl))⟩, f23 := ⟨Try.f89.name, by decide, Try.func89.trans (congrArg some (by kernel_rfl))⟩,
  f24 := ⟨Try.f90.name, by decide, Try.func90.trans (congrArg some (by kernel_rfl))⟩, f25 := ⟨Try.f91.name, by decide, Try.func91.trans (congrArg some (by kernel_rfl))⟩, f26 := ⟨Try.f92.name, by decide, Try.func92.trans (congrArg some (by kernel_rfl))⟩, f27 := ⟨Try.f93.name, by decide, Try.func93.trans (congrArg some (by kernel_rfl))⟩, f28 := Try.func94.trans (congrArg some (by kernel_rfl)), f29 := Try.func95.trans (congrArg some (by kernel_rfl)), f46 := ⟨Try.f98.name, by decide, Try.func98.trans (congrArg some (by kernel_rfl))⟩, f47 := Try.func99.trans (congrArg some (by kernel_rfl)),
  f48 := Try.func100.trans (congrArg some (by kernel_rfl)), f49 := ⟨Try.f101.name, by decide, Try.func101.trans (congrArg some (by kernel_rfl))⟩, f50 := ⟨Try.f102.name, by decide, Try.func102.trans (congrArg some (by kernel_rfl))⟩, f57 := ⟨Try.f103.name, by decide, Try.func103.trans (congrArg some (by kernel_rfl))⟩, t0 := Try.underlying0, a0 := Try.isAgg0, z0 := Try.sizeOf0, v0 := Try.zeroValue0,
  t3 := Try.underlying3, a3 := Try.isAgg3, z3 := Try.sizeOf3, v3 := Try.zeroValue3, t4 := Try.underlying4, a4 := Try.isAgg4, z4 := Try.sizeOf4, v4 := Try.zeroValue4,
  t5 := Try.underlying5, a5 := Try.isAgg5, z5 := Try.sizeOf5, v5 := Try.zeroValue5, t9 := Try.underlying9, a9 := Try.isAgg9, z9 := Try.sizeOf9, v9 := Try.zeroValue9,
  t22 := Try.underlying22, a22 := Try.isAgg22, z22 := Try.sizeOf22, v22 := Try.zeroValue22, a24 := Try.isAgg33, z24 := Try.sizeOf33, t25 := Try.underlying36, a25 := Try.isAgg36,
  z25 := Try.sizeOf36, v25 := Try.zeroValue36, t39 := Try.underlying105, a39 := Try.isAgg105, z39 := Try.sizeOf105, v39 := Try.zeroValue105, t45 := Try.underlying114, a45 := Try.isAgg114,
  z45 := Try.sizeOf114, v45 := Try.zeroValue114, t46 := Try.underlying115, a46 := Try.isAgg115, z46 := Try.sizeOf115, v46 := Try.zeroValue115, t50 := Try.underlying81, a50 := Try.isAgg81,
  z50 := Try.sizeOf81, v50 := Try.zeroValue81, t53 := Try.underlying121, a53 := Try.isAgg121, z53 := Try.sizeOf121, v53 := Try.zeroValue121, t55 := Try.underlying123, a55 := Try.isAgg123,
  z55 := Try.sizeOf123, v55 := Try.zeroValue123, t66 := Try.underlying126, a66 := Try.isAgg126, z66 := Try.sizeOf126, v66 := Try.zeroValue126, t70 := Try.underlying130, a70 := Try.isAgg130,
  z70 := Try.sizeOf130, v70 := Try.zeroValue130, t76 := Try.underlying132, a76 := Try.isAgg132, z76 := Try.sizeOf132, v76 := Try.zeroValue132, t77 := Try.underlying133, a77 := Try.isAgg133,
  z77 := Try.sizeOf133, v77 := Try.zeroValue133 }
theorem sort_block {α : Type} [Inhabited α] {w : World} {g : Nat} {cur : Array Value} {e : TypeId} (enc : α → Value) (d' : Array α) (m : Nat) (os : Array Obj) (hg : w.heap[g]? = some (.cells cur e (0, 0))) :
    (sortWorld enc w g 0 m d' os).heap[g]? = some (.cells (Sort.putCells enc 0 d' cur) e (0, 0)) ∧ ButS (fun b => b = g) w (sortWorld enc w g 0 m d' os) := by
  have hlt := (Array.getElem?_eq_some_iff.1 hg).1
  refine ⟨?_, rfl, rfl, rfl, ?_, fun b hb hne => ?_⟩
  · show ((w.heap.modify g (Sort.onCells (Sort.putCells enc 0 d'))) ++ os)[g]? = _
    rw [Array.getElem?_append_left (by simpa using hlt), Array.getElem?_modify, if_pos rfl, hg]
    rfl
  · show w.heap.size ≤ ((w.heap.modify g (Sort.onCells (Sort.putCells enc 0 d'))) ++ os).size
    simp
  · show ((w.heap.modify g (Sort.onCells (Sort.putCells enc 0 d'))) ++ os)[b]? = _
    rw [Array.getElem?_append_left (by simpa using hb), Array.getElem?_modify, if_neg (fun e => hne e.symm)]
theorem putCells_take {α : Type} [Inhabited α] (enc : α → Value) (d : Array α) (cur : Array Value) (h : d.size ≤ cur.size) : (Sort.putCells enc 0 d cur).toList.take d.size = d.toList.map enc := by
  apply List.ext_getElem
  · simp [Sort.putCells]
    omega
  · intro i h1 h2
    have h3 : i < d.size := by simpa using h2
    simp [Sort.putCells, h3]
theorem extract_all {α : Type} {d : Array α} {n : Nat} (h : d.size = n) : d.extract 0 n = d := by
  rw [← h]
  exact Array.extract_size
theorem cmp_ge_trans {x y z : List ByteArray} (h1 : ¬ cmpRow x y < 0) (h2 : ¬ cmpRow y z < 0) : ¬ cmpRow x z < 0 := by
  intro h
  have s1 := cmpRow_swap x y
  by_cases e : cmpRow y x = 0
  · rw [← (cmpRow_zero y x).1 e] at h
    exact h2 h
  · exact h2 (cmpRow_trans y x z (by omega) h)
def SortPost (lo : Nat) (a : Option Addr) (n c : Nat) (ws : List (List ByteArray)) (w : World) (e : Ending) (w' : World) : Prop := e = .returned (.tuple #[]) ∧ ∃ us' ws', w'.ownsRow lo 33 1 (.slice a n c) n us' ∧ RowsAt lo w' us' ws' ∧ ws'.Perm ws ∧ Sorted ws' ∧ ButS (fun b => (Value.slice a n c).ownBlock = some b) w w'
set_option maxHeartbeats 1000000 in
theorem c_sort (lo : Nat) (a : Option Addr) (n c : Nat) (us : List Value) (ws : List (List ByteArray)) (w : World) (hown : w.ownsRow lo 33 1 (.slice a n c) n us) (hr : RowsAt lo w us ws) (hn : n ≤ 1000000) :
    Calls Try.prog 66 #[.slice a n c, .func (.func 67) #[] #[]] w (SortPost lo a n c ws w) := by
  have hul : us.length = n := by have := hown.1; omega
  have hwl : ws.length = n := by rw [← hr.1, hul]
  by_cases h0 : n = 0
  · subst h0
    have hcon := AnyF.slices_SortFunc_none (P := Try.prog) { Try.sortR with } a c (.func (.func 67) #[] #[]) w
    refine Calls.mono hcon ?_
    rintro e w' ⟨rfl, rfl⟩
    have hw0 : ws = [] := List.eq_nil_of_length_eq_zero hwl
    subst hw0
    exact ⟨rfl, us, [], hown, hr, List.Perm.refl _, List.Pairwise.nil, ButS.refl _ _⟩
  · obtain ⟨g, c', e0, _⟩ := own_formS hown (by omega)
    cases e0
    obtain ⟨cur, hcur, hcs, hct⟩ : ∃ cur : Array Value, w.heap[g]? = some (.cells cur 33 (0, 0)) ∧ n ≤ cur.size ∧ cur.toList.take n = us := by
      rcases hown.2 with ⟨h1, _⟩ | ⟨g', c', cur, h1, _, hg, hnc, _, hs, ht⟩
      · cases h1
      · cases h1
        exact ⟨cur, hg, by omega, by rw [Nat.mul_one] at ht; exact ht⟩
    have : Inhabited { j : Nat // j < n } := ⟨⟨0, by omega⟩⟩
    obtain ⟨enc, henc⟩ : ∃ enc : { j : Nat // j < n } → Value, enc = fun x => us[x.1]?.getD undef := ⟨_, rfl⟩
    obtain ⟨f, hf⟩ : ∃ f : { j : Nat // j < n } → List ByteArray, f = fun x => ws[x.1]?.getD [] := ⟨_, rfl⟩
    have hat : ∀ x : { j : Nat // j < n }, us[x.1]? = some (enc x) ∧ ws[x.1]? = some (f x) := fun x => by
      rw [henc, hf]
      simp only
      rw [List.getElem?_eq_getElem (show x.1 < us.length by rw [hul]; exact x.2), List.getElem?_eq_getElem (show x.1 < ws.length by rw [hwl]; exact x.2)]
      exact ⟨rfl, rfl⟩
    have hrow : ∀ x, w.ownsRow lo 9 1 (enc x) (f x).length ((f x).map Value.string) := fun x => hr.2 x.1 _ _ (hat x).2 (hat x).1
    obtain ⟨d, hd⟩ : ∃ d : Array { j : Nat // j < n }, d = Array.ofFn fun i : Fin n => ⟨i.1, i.2⟩ := ⟨_, rfl⟩
    have hds : d.size = n := by rw [hd]; simp
    have hdat : ∀ j (h : j < n), d[j]! = ⟨j, h⟩ := fun j h => by
      rw [getElem!_pos d j (by omega)]
      subst hd
      simp
    have hH : Sort.Holds enc w g 0 d := fun j hj => by
      rw [hds] at hj
      refine ⟨?_, by simp [World.frozen?, hcur]⟩
      have := hown.cells (g := g) rfl j _ (hat ⟨j, hj⟩).1
      rw [Addr.add_lit] at this
      rw [hdat j hj]
      exact this
    have hO : Sort.SWO (ltOf fun x y => cmpRow (f x) (f y)) := by
      refine ⟨fun x => ?_, fun x y z h1 h2 => ?_, fun x y z h1 h2 => ?_⟩
      · simp [ltOf, (cmpRow_zero (f x) (f x)).2 rfl]
      · simp only [ltOf, decide_eq_true_eq] at *
        exact cmpRow_trans _ _ _ h1 h2
      · simp only [ltOf, decide_eq_false_iff_not] at *
        exact cmp_ge_trans h1 h2
    have h1c : ∀ x, (enc x).oneCell' = true := fun x => by
      obtain ⟨_, _, e, _⟩ := own_form (hrow x)
      rw [e]
      rfl
    have hcmp : CmpReads Try.prog 67 #[] enc (fun x y => cmpRow (f x) (f y)) g 0 d.size w := fun m os dk _ x y => by
      have hb := (sort_block enc dk m os hcur).2
      have hx := row_str (hrow x) hown (hb.mono fun b _ e => by simp [Value.ownBlock, e])
      have hy := row_str (hrow y) hown (hb.mono fun b _ e => by simp [Value.ownBlock, e])
      obtain ⟨ax, cx, ex, _⟩ := own_form hx
      obtain ⟨ay, cy, ey, _⟩ := own_form hy
      rw [ex] at hx ⊢
      rw [ey] at hy ⊢
      exact (c_cmpF (f x) (f y) ax _ cx ay _ cy _ (own_strs hx (own_len hx).1) (own_strs hy (own_len hy).1)).mono fun e w' ⟨h1, h2⟩ => ⟨h1, 0, h2⟩
    have eg : ∀ args w, (callFunc 67 args).run Try.prog w = .ok (.enter 67 args) w := enters_of Try.func67 (by kernel_rfl) rfl
    have hcon := Any.slices_SortFunc Try.sortR enc h1c (fun x y => cmpRow (f x) (f y)) hO 67 #[] g 0 c d w eg hcmp.lays hH (Array.getElem?_eq_some_iff.1 hcur).1 (by omega)
    rw [hds] at hcon
    refine Calls.mono hcon ?_
    rintro e w' ⟨rfl, d', m, os, hp, hs, rfl⟩
    obtain ⟨k1, k2⟩ := sort_block enc d' m os hcur
    have hd's : d'.size = n := by rw [hp.1, hds]
    have hB : ButS (fun b => (Value.slice (some ⟨g, 0, none⟩) n c).ownBlock = some b) w (sortWorld enc w g 0 m d' os) := k2.mono fun b _ e => by simp [Value.ownBlock, e]
    refine ⟨rfl, d'.toList.map enc, d'.toList.map f, ?_, ⟨by simp, fun i r v h1 h2 => ?_⟩, ?_, ?_, hB⟩
    · refine ⟨by simp [hd's], ?_⟩
      rcases hown.2 with ⟨h1, _⟩ | ⟨g', c', cur', h1, hb', hg', hnc, hcm, hs', ht⟩
      · cases h1
      · cases h1
        rw [hcur] at hg'
        cases hg'
        exact .inr ⟨g, c, Sort.putCells enc 0 d' cur, rfl, hb', k1, hnc, hcm, by simp [Sort.putCells, hs'], by rw [Nat.mul_one, ← putCells_take enc d' cur (by omega), hd's]⟩
    · rw [List.getElem?_map] at h1 h2
      obtain ⟨x, hx, rfl⟩ := Option.map_eq_some_iff.1 h1
      obtain ⟨y, hy, rfl⟩ := Option.map_eq_some_iff.1 h2
      rw [hx] at hy
      cases hy
      exact row_str (hrow x) hown hB
    · have e1 : d.toList.map f = ws := by
        apply List.ext_getElem
        · simp [hds, hwl]
        · intro i h1 h2
          rw [List.getElem_map]
          have h3 : i < n := by omega
          have h4 : d.toList[i]'(by simp at h1; simpa using h1) = ⟨i, h3⟩ := by
            have := hdat i h3
            rw [getElem!_pos d i (by omega)] at this
            simpa using this
          rw [h4]
          have := (hat ⟨i, h3⟩).2
          rw [List.getElem?_eq_getElem h2] at this
          exact (Option.some.inj this).symm
      rw [← e1]
      have hpp := hp.2.2
      have x1 : d'.extract 0 n = d' := extract_all hd's
      have x2 : d.extract 0 n = d := extract_all hds
      rw [x1, x2] at hpp
      exact hpp.map f
    · refine List.pairwise_iff_getElem.2 fun i j hi hj hij => ?_
      have hi' : i < d'.size := by simpa using hi
      have hj' : j < d'.size := by simpa using hj
      have := hs i j (Nat.zero_le _) hij (by omega)
      rw [getElem!_pos d' i hi', getElem!_pos d' j hj'] at this
      simpa [ltOf] using this
end Go.Proofs.Ythjpfplebbnbpaa
