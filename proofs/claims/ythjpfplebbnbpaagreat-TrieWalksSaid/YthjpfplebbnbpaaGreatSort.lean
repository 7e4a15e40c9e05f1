/- slices.SortFunc at rows, by the shelf's contract: a permutation, sorted. -/
import Derived.Test.YthjpfplebbnbpaaGreatComp
import Derived.Shelf.SlSortCmp.Whole1
import Derived.Shelf.SlSortCmp.NoneTotal
import Derived.Shelf.SlGeneric
import Derived.Ground.SlsfProg
namespace Go.Proofs.YthjpfplebbnbpaaGreat
open Go.ChangeShapes Go.WideShapes Go.ChangeAt Go.RowKit
def Tryz.sortR_ren : Go.Shelf.Ren := ⟨fun | 6 => 73 | 15 => 90 | 14 => 89 | 28 => 109 | 29 => 110 | 20 => 101 | 21 => 102 | 22 => 103 | 23 => 104 | 24 => 105 | 25 => 106 | 26 => 107 | 27 => 108 | 46 => 113 | 47 => 114 | 48 => 115 | 49 => 116 | 50 => 117 | 57 => 119 | n => n, fun | 22 => 22 | 24 => 46 | 25 => 93 | 3 => 3 | 39 => 114 | 0 => 0 | 53 => 129 | 55 => 131 | 4 => 4 | 46 => 123 | 45 => 122 | 50 => 72 | 5 => 5 | 9 => 9 | 66 => 132 | 70 => 136 | 76 => 139 | 77 => 140 | n => n, fun | n => n⟩
theorem Tryz.sortR : Go.Proofs.SlLaysF.n6 Tryz.prog Tryz.sortR_ren := {
  mixed := by kernel_rfl, f6 := ⟨Tryz.f73.name, by decide, Tryz.func73.trans (congrArg some (by kernel_rfl))⟩, f14 := ⟨Tryz.f89.name, by decide, Tryz.func89.trans (congrArg some (by kernel_rfl))⟩, f15 := Tryz.func90.trans (congrArg some (by kernel_rfl)), f20 := ⟨Tryz.f101.name, by decide, Tryz.func101.trans (congrArg some (by kernel_rfl))⟩, f21 := ⟨Tryz.f102.name, by decide, Tryz.func102.trans (congrArg some (by kernel_rfl))⟩, f22 := ⟨Tryz.f103.name, by decide, Tryz.func103.trans (congrArg some (by kernel_rfl))⟩, f23 := ⟨Tryz.f104.name, by decide, Tryz.func104.trans (congrArg some (by kernel_rfl))⟩,
  f24 := ⟨Tryz.f105.name, by decide, Tryz.func105.trans (congrArg some (by kernel_rfl))⟩, f25 := ⟨Tryz.f106.name, by decide, Tryz.func106.trans (congrArg some (by kernel_rfl))⟩, f26 := ⟨Tryz.f107.name, by decide, Tryz.func107.trans (congrArg some (by kernel_rfl))⟩, f27 := ⟨Tryz.f108.name, by decide, Tryz.func108.trans (congrArg some (by kernel_rfl))⟩, f28 := Tryz.func109.trans (congrArg some (by kernel_rfl)), f29 := Tryz.func110.trans (congrArg some (by kernel_rfl)), f46 := ⟨Tryz.f113.name, by decide, Tryz.func113.trans (congrArg some (by kernel_rfl))⟩, f47 := Tryz.func114.trans (congrArg some (by kernel_rfl)),
  f48 := Tryz.func115.trans (congrArg some (by kernel_rfl)), f49 := ⟨Tryz.f116.name, by decide, Tryz.func116.trans (congrArg some (by kernel_rfl))⟩, f50 := ⟨Tryz.f117.name, by decide, Tryz.func117.trans (congrArg some (by kernel_rfl))⟩, f57 := ⟨Tryz.f119.name, by decide, Tryz.func119.trans (congrArg some (by kernel_rfl))⟩, t0 := Tryz.underlying0, a0 := Tryz.isAgg0, z0 := Tryz.sizeOf0, v0 := Tryz.zeroValue0,
  t3 := Tryz.underlying3, a3 := Tryz.isAgg3, z3 := Tryz.sizeOf3, v3 := Tryz.zeroValue3, t4 := Tryz.underlying4, a4 := Tryz.isAgg4, z4 := Tryz.sizeOf4, v4 := Tryz.zeroValue4,
  t5 := Tryz.underlying5, a5 := Tryz.isAgg5, z5 := Tryz.sizeOf5, v5 := Tryz.zeroValue5, t9 := Tryz.underlying9, a9 := Tryz.isAgg9, z9 := Tryz.sizeOf9, v9 := Tryz.zeroValue9,
  t22 := Tryz.underlying22, a22 := Tryz.isAgg22, z22 := Tryz.sizeOf22, v22 := Tryz.zeroValue22, a24 := Tryz.isAgg46, z24 := Tryz.sizeOf46, t25 := Tryz.underlying93, a25 := Tryz.isAgg93,
  z25 := Tryz.sizeOf93, v25 := Tryz.zeroValue93, t39 := Tryz.underlying114, a39 := Tryz.isAgg114, z39 := Tryz.sizeOf114, v39 := Tryz.zeroValue114, t45 := Tryz.underlying122, a45 := Tryz.isAgg122,
  z45 := Tryz.sizeOf122, v45 := Tryz.zeroValue122, t46 := Tryz.underlying123, a46 := Tryz.isAgg123, z46 := Tryz.sizeOf123, v46 := Tryz.zeroValue123, t50 := Tryz.underlying72, a50 := Tryz.isAgg72,
  z50 := Tryz.sizeOf72, v50 := Tryz.zeroValue72, t53 := Tryz.underlying129, a53 := Tryz.isAgg129, z53 := Tryz.sizeOf129, v53 := Tryz.zeroValue129, t55 := Tryz.underlying131, a55 := Tryz.isAgg131,
  z55 := Tryz.sizeOf131, v55 := Tryz.zeroValue131, t66 := Tryz.underlying132, a66 := Tryz.isAgg132, z66 := Tryz.sizeOf132, v66 := Tryz.zeroValue132, t70 := Tryz.underlying136, a70 := Tryz.isAgg136,
  z70 := Tryz.sizeOf136, v70 := Tryz.zeroValue136, t76 := Tryz.underlying139, a76 := Tryz.isAgg139, z76 := Tryz.sizeOf139, v76 := Tryz.zeroValue139, t77 := Tryz.underlying140, a77 := Tryz.isAgg140,
  z77 := Tryz.sizeOf140, v77 := Tryz.zeroValue140 }
theorem sort_block {α : Type} [Inhabited α] {w : World} {g : Nat} {cur : Array Value} {e : TypeId} (enc : α → Value) (d' : Array α) (m : Nat) (os : Array Obj) (hg : w.heap[g]? = some (.cells cur e (0, 0))) :
    (sortWorld enc w g 0 m d' os).heap[g]? = some (.cells (Sort.putCells enc 0 d' cur) e (0, 0)) ∧ ButS (fun b => b = g) w (sortWorld enc w g 0 m d' os) := by
  have hlt := (Array.getElem?_eq_some_iff.1 hg).1
  refine ⟨?_, rfl, rfl, rfl, ?_, fun b hb hne => ?_⟩
  · show ((w.heap.modify g (Sort.onCells (Sort.putCells enc 0 d'))) ++ os)[g]? = _
    rw [Array.getElem?_append_left (by simpa using hlt), Array.getElem?_modify, if_pos rfl, hg]
    rfl
  · show w.heap.size ≤ ((w.heap.modify g (Sort.onCells (Sort.putCells enc 0 d'))) ++ os).size
    simp
  · show ((w.heap.modify g (Sort.onCells (Sort.putCells enc 0 d'))) ++ os)[b]? = _
    rw [Array.getElem?_append_left (by simpa using hb), Array.getElem?_modify, if_neg (fun e => hne e.symm)]
theorem putCells_take {α : Type} [Inhabited α] (enc : α → Value) (d : Array α) (cur : Array Value) (h : d.size ≤ cur.size) : (Sort.putCells enc 0 d cur).toList.take d.size = d.toList.map enc := by
  apply List.ext_getElem
  · simp [Sort.putCells]
    omega
  · intro i h1 h2
    have h3 : i < d.size := by simpa using h2
    simp [Sort.putCells, h3]
theorem extract_all {α : Type} {d : Array α} {n : Nat} (h : d.size = n) : d.extract 0 n = d := by
  rw [← h]
  exact Array.extract_size
theorem cmp_ge_trans {x y z : List ByteArray} (h1 : ¬ cmpRow x y < 0) (h2 : ¬ cmpRow y z < 0) : ¬ cmpRow x z < 0 := by
  intro h
  have s1 := cmpRow_swap x y
  by_cases e : cmpRow y x = 0
  · rw [← (cmpRow_zero y x).1 e] at h
    exact h2 h
  · exact h2 (cmpRow_trans y x z (by omega) h)
def SortPost (lo : Nat) (a : Option Addr) (n c : Nat) (ws : List (List ByteArray)) (w : World) (e : Ending) (w' : World) : Prop := e = .returned (.tuple #[]) ∧ ∃ us' ws', w'.ownsRow lo 46 1 (.slice a n c) n us' ∧ RowsAt lo w' us' ws' ∧ ws'.Perm ws ∧ Sorted ws' ∧ ButS (fun b => (Value.slice a n c).ownBlock = some b) w w'
set_option maxHeartbeats 1000000 in
theorem c_sort (lo : Nat) (a : Option Addr) (n c : Nat) (us : List Value) (ws : List (List ByteArray)) (w : World) (hown : w.ownsRow lo 46 1 (.slice a n c) n us) (hr : RowsAt lo w us ws) (hn : n ≤ 1000000) :
    Calls Tryz.prog 73 #[.slice a n c, .func (.func 74) #[] #[]] w (SortPost lo a n c ws w) := by
  have hul : us.length = n := by have := hown.1; omega
  have hwl : ws.length = n := by rw [← hr.1, hul]
  by_cases h0 : n = 0
  · subst h0
    have hcon := AnyF.slices_SortFunc_none (P := Tryz.prog) { Tryz.sortR with } a c (.func (.func 74) #[] #[]) w
    refine Calls.mono hcon ?_
    rintro e w' ⟨rfl, rfl⟩
    have hw0 : ws = [] := List.eq_nil_of_length_eq_zero hwl
    subst hw0
    exact ⟨rfl, us, [], hown, hr, List.Perm.refl _, List.Pairwise.nil, ButS.refl _ _⟩
  · obtain ⟨g, c', e0, _⟩ := own_formS hown (by omega)
    cases e0
    obtain ⟨cur, hcur, hcs, hct⟩ : ∃ cur : Array Value, w.heap[g]? = some (.cells cur 46 (0, 0)) ∧ n ≤ cur.size ∧ cur.toList.take n = us := by
      rcases hown.2 with ⟨h1, _⟩ | ⟨g', c', cur, h1, _, hg, hnc, _, hs, ht⟩
      · cases h1
      · cases h1
        exact ⟨cur, hg, by omega, by rw [Nat.mul_one] at ht; exact ht⟩
    have : Inhabited { j : Nat // j < n } := ⟨⟨0, by omega⟩⟩
    obtain ⟨enc, henc⟩ : ∃ enc : { j : Nat // j < n } → Value, enc = fun x => us[x.1]?.getD undef := ⟨_, rfl⟩
    obtain ⟨f, hf⟩ : ∃ f : { j : Nat // j < n } → List ByteArray, f = fun x => ws[x.1]?.getD [] := ⟨_, rfl⟩
    have hat : ∀ x : { j : Nat // j < n }, us[x.1]? = some (enc x) ∧ ws[x.1]? = some (f x) := fun x => by
      rw [henc, hf]
      simp only
      rw [List.getElem?_eq_getElem (show x.1 < us.length by rw [hul]; exact x.2), List.getElem?_eq_getElem (show x.1 < ws.length by rw [hwl]; exact x.2)]
      exact ⟨rfl, rfl⟩
    have hrow : ∀ x, w.ownsRow lo 9 1 (enc x) (f x).length ((f x).map Value.string) := fun x => hr.2 x.1 _ _ (hat x).2 (hat x).1
    obtain ⟨d, hd⟩ : ∃ d : Array { j : Nat // j < n }, d = Array.ofFn fun i : Fin n => ⟨i.1, i.2⟩ := ⟨_, rfl⟩
    have hds : d.size = n := by rw [hd]; simp
    have hdat : ∀ j (h : j < n), d[j]! = ⟨j, h⟩ := fun j h => by
      rw [getElem!_pos d j (by omega)]
      subst hd
      simp
    have hH : Sort.Holds enc w g 0 d := fun j hj => by
      rw [hds] at hj
      refine ⟨?_, by simp [World.frozen?, hcur]⟩
      have := hown.cells (g := g) rfl j _ (hat ⟨j, hj⟩).1
      rw [Addr.add_lit] at this
      rw [hdat j hj]
      exact this
    have hO : Sort.SWO (ltOf fun x y => cmpRow (f x) (f y)) := by
      refine ⟨fun x => ?_, fun x y z h1 h2 => ?_, fun x y z h1 h2 => ?_⟩
      · simp [ltOf, (cmpRow_zero (f x) (f x)).2 rfl]
      · simp only [ltOf, decide_eq_true_eq] at *
        exact cmpRow_trans _ _ _ h1 h2
      · simp only [ltOf, decide_eq_false_iff_not] at *
        exact cmp_ge_trans h1 h2
    have h1c : ∀ x, (enc x).oneCell' = true := fun x => by
      obtain ⟨_, _, e, _⟩ := own_form (hrow x)
      rw [e]
      rfl
    have hcmp : CmpReads Tryz.prog 74 #[] enc (fun x y => cmpRow (f x) (f y)) g 0 d.size w := fun m os dk _ x y => by
      have hb := (sort_block enc dk m os hcur).2
      have hx := row_str (hrow x) hown (hb.mono fun b _ e => by simp [Value.ownBlock, e])
      have hy := row_str (hrow y) hown (hb.mono fun b _ e => by simp [Value.ownBlock, e])
      obtain ⟨ax, cx, ex, _⟩ := own_form hx
      obtain ⟨ay, cy, ey, _⟩ := own_form hy
      rw [ex] at hx ⊢
      rw [ey] at hy ⊢
      exact (c_cmpF (f x) (f y) ax _ cx ay _ cy _ (own_strs hx (own_len hx).1) (own_strs hy (own_len hy).1)).mono fun e w' ⟨h1, h2⟩ => ⟨h1, 0, h2⟩
    have eg : ∀ args w, (callFunc 74 args).run Tryz.prog w = .ok (.enter 74 args) w := enters_of Tryz.func74 (by kernel_rfl) rfl
    have hcon := Any.slices_SortFunc Tryz.sortR enc h1c (fun x y => cmpRow (f x) (f y)) hO 74 #[] g 0 c d w eg hcmp.lays hH (Array.getElem?_eq_some_iff.1 hcur).1 (by omega)
    rw [hds] at hcon
    refine Calls.mono hcon ?_
    rintro e w' ⟨rfl, d', m, os, hp, hs, rfl⟩
    obtain ⟨k1, k2⟩ := sort_block enc d' m os hcur
    have hd's : d'.size = n := by rw [hp.1, hds]
    have hB : ButS (fun b => (Value.slice (some ⟨g, 0, none⟩) n c).ownBlock = some b) w (sortWorld enc w g 0 m d' os) := k2.mono fun b _ e => by simp [Value.ownBlock, e]
    refine ⟨rfl, d'.toList.map enc, d'.toList.map f, ?_, ⟨by simp, fun i r v h1 h2 => ?_⟩, ?_, ?_, hB⟩
    · refine ⟨by simp [hd's], ?_⟩
      rcases hown.2 with ⟨h1, _⟩ | ⟨g', c', cur', h1, hb', hg', hnc, hcm, hs', ht⟩
      · cases h1
      · cases h1
        rw [hcur] at hg'
        cases hg'
        exact .inr ⟨g, c, Sort.putCells enc 0 d' cur, rfl, hb', k1, hnc, hcm, by simp [Sort.putCells, hs'], by rw [Nat.mul_one, ← putCells_take enc d' cur (by omega), hd's]⟩
    · rw [List.getElem?_map] at h1 h2
      obtain ⟨x, hx, rfl⟩ := Option.map_eq_some_iff.1 h1
      obtain ⟨y, hy, rfl⟩ := Option.map_eq_some_iff.1 h2
      rw [hx] at hy
      cases hy
      exact row_str (hrow x) hown hB
    · have e1 : d.toList.map f = ws := by
        apply List.ext_getElem
        · simp [hds, hwl]
        · intro i h1 h2
          rw [List.getElem_map]
          have h3 : i < n := by omega
          have h4 : d.toList[i]'(by simp at h1; simpa using h1) = ⟨i, h3⟩ := by
            have := hdat i h3
            rw [getElem!_pos d i (by omega)] at this
            simpa using this
          rw [h4]
          have := (hat ⟨i, h3⟩).2
          rw [List.getElem?_eq_getElem h2] at this
          exact (Option.some.inj this).symm
      rw [← e1]
      have hpp := hp.2.2
      have x1 : d'.extract 0 n = d' := extract_all hd's
      have x2 : d.extract 0 n = d := extract_all hds
      rw [x1, x2] at hpp
      exact hpp.map f
    · refine List.pairwise_iff_getElem.2 fun i j hi hj hij => ?_
      have hi' : i < d'.size := by simpa using hi
      have hj' : j < d'.size := by simpa using hj
      have := hs i j (Nat.zero_le _) hij (by omega)
      rw [getElem!_pos d' i hi', getElem!_pos d' j hj'] at this
      simpa [ltOf] using this
end Go.Proofs.YthjpfplebbnbpaaGreat
