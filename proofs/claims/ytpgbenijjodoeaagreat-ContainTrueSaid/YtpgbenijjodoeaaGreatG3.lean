/- The walk of slices.Insert at rows: one more element in a row of one's own. -/
import Derived.Test.YtpgbenijjodoeaaGreatG2
import Derived.Shelf.Spec.SlicesInsert
import Derived.Lib.AppendZerosOnto
import Derived.Laws.NewBlocks
namespace Go.Proofs.YtpgbenijjodoeaaGreat
open Go.ChangeShapes Go.WideShapes Go.ChangeAt Go.RowKit
theorem info_row : (Tryz.prog.info? 46).map (fun i => (i.zero, i.size, i.bytes)) = some (some (.slice none 0 0), 1, 24) := by kernel_rfl
def InsPost (base : Nat) (vs : List Value) (u : Value) (n i : Nat) (row : Option Nat) (w : World) (e : Ending) (w' : World) : Prop := ∃ g c', e = .returned (.slice (some ⟨g, 0, none⟩) (n + 1) c') ∧ w'.ownsRow base 46 1 (.slice (some ⟨g, 0, none⟩) (n + 1) c') (n + 1) (vs.take i ++ u :: vs.drop i) ∧ w.grownBy w' row ∧ (row = some g ∨ w.heap.size ≤ g)
set_option maxRecDepth 100000 in
set_option maxHeartbeats 4000000 in
theorem c_insert_end (vs : List Value) (u : Value) (a : Option Addr) (n c gv : Nat) (base : Nat) (w : World) (hown : w.ownsRow base 46 1 (.slice a n c) n vs) (hv : w.cell? ⟨gv, 0, none⟩ = some u) (hu : u.oneCell' = true) (hn : n ≤ 1000000) (hb : base ≤ w.heap.size) :
    Calls Tryz.prog 74 #[.slice a n c, .int .i64 (n : Int), .slice (some ⟨gv, 0, none⟩) 1 1] w (InsPost base vs u n n (Value.slice a n c).ownBlock w) := by
  obtain ⟨i0, hi, hz0, hz1, hz2⟩ := info_parts info_row
  have HO := Lib.hid hown
  have HV := Lib.hid hv
  have hlen : vs.length = n := by have := hown.1; omega
  have HL := Lib.hid hlen
  have hcap := (cap_of_own hown).1
  have hci : (n : Int) ≤ (c : Int) := by omega
  have B1 : Hid (n + 1 ≤ maxLen) := by show _ ≤ _; unfold maxLen; omega
  have B2 : Hid ((n + 1) * 24 ≤ 140737488355328) := by show _ ≤ _; omega
  have HNW : Hid (∀ j x, [u][j]? = some x → w.cell? ((⟨gv, 0, none⟩ : Addr).add j) = some x) := fun j x hx => by
    have hj : j = 0 := by
      have := (List.getElem?_eq_some_iff.1 hx).1
      simp at this
      exact this
    subst hj
    cases hx
    rw [Addr.add_lit]
    exact HV.out
  clear hown hv hlen
  by_cases hcn : c = n
  · subst hcn
    go_enter Tryz.func74, Tryz.ntmps74
    go_wp2_with (at_builtin; go_loud (refine wpList_append_lies _ rfl _ _ 64 rfl base 46 i0 (.slice none 0 0) 1 24 Tryz.underlying64 hi hz0 hz1 hz2 rfl (by decide) (.slice a c c) c vs rfl HO.out ⟨gv, 0, none⟩ 1 1 [u] rfl rfl HNW.out (fun x hx => by cases List.mem_singleton.1 hx; exact hu) (Nat.zero_lt_one) B1.out B2.out hb _ rfl ?_); intro g7 p7 w7 own7 q7 hat7 hlt7)
    go_returns
    exact ⟨g7, p7, rfl, by rw [List.take_of_length_le (by have := HL.out; omega), List.drop_of_length_le (by have := HL.out; omega)]; exact own7, q7, hat7.imp id (fun e => by rw [e]; exact Nat.le_refl _)⟩
  · have hcn2 : ¬ ((c : Int) = (n : Int)) := by omega
    go_enter Tryz.func74, Tryz.ntmps74
    go_wp2_with (at_builtin; go_loud (refine wpList_append_lies _ rfl _ _ 64 rfl base 46 i0 (.slice none 0 0) 1 24 Tryz.underlying64 hi hz0 hz1 hz2 rfl (by decide) (.slice a n c) n vs rfl HO.out ⟨gv, 0, none⟩ 1 1 [u] rfl rfl HNW.out (fun x hx => by cases List.mem_singleton.1 hx; exact hu) (Nat.zero_lt_one) B1.out B2.out hb _ rfl ?_); intro g7 p7 w7 own7 q7 hat7 hlt7)
    go_returns
    exact ⟨g7, p7, rfl, by rw [List.take_of_length_le (by have := HL.out; omega), List.drop_of_length_le (by have := HL.out; omega)]; exact own7, q7, hat7.imp id (fun e => by rw [e]; exact Nat.le_refl _)⟩
def putL : List Value → Nat → List Value → List Value
  | xs, _, [] => xs
  | xs, j, v :: r => putL (xs.set j v) (j + 1) r
theorem putL_eq (news : List Value) : ∀ (xs : List Value) (j : Nat), j + news.length ≤ xs.length → putL xs j news = xs.take j ++ news ++ xs.drop (j + news.length) := by
  induction news with
  | nil => intro xs j _; simp [putL]
  | cons v r ih =>
    intro xs j h
    rw [List.length_cons] at h
    rw [putL, ih (xs.set j v) (j + 1) (by rw [List.length_set]; omega), List.length_cons]
    have e1 : (xs.set j v).take (j + 1) = xs.take j ++ [v] := by
      rw [List.take_add_one, List.getElem?_set, if_pos rfl, if_pos (by omega), List.take_set, List.set_eq_of_length_le (List.length_take_le _ _)]
      rfl
    have e2 : (xs.set j v).drop (j + 1 + r.length) = xs.drop (j + (r.length + 1)) := by
      rw [List.drop_set_of_lt (by omega), show j + 1 + r.length = j + (r.length + 1) by omega]
    rw [e1, e2]
    simp
theorem own_setCells {base n size g cap : Nat} {e : TypeId} (news : List Value) : ∀ (w : World) (j : Nat) (xs : List Value), w.ownsRow base e size (.slice (some ⟨g, 0, none⟩) n cap) n xs → (w.setCells g j news).ownsRow base e size (.slice (some ⟨g, 0, none⟩) n cap) n (putL xs j news) ∧ w.grownBy (w.setCells g j news) (some g) := by
  induction news with
  | nil => intro w j xs h; exact ⟨h, rfl, rfl, rfl, Nat.le_refl _, fun _ _ _ => rfl⟩
  | cons v r ih =>
    intro w j xs h
    obtain ⟨h1, h2⟩ := h.stored j v
    obtain ⟨h3, h4⟩ := ih _ (j + 1) _ h1
    exact ⟨h3, h4.os.trans h2.os, h4.tape.trans h2.tape, h4.output.trans h2.output, Nat.le_trans h2.size h4.size, fun k hk hne => (h4.block k (Nat.lt_of_lt_of_le hk h2.size) hne).trans (h2.block k hk hne)⟩
theorem own_widen {w : World} {base n c g : Nat} {e : TypeId} {xs : List Value} (h : w.ownsRow base e 1 (.slice (some ⟨g, 0, none⟩) n c) n xs) (hr : n + 1 ≤ c) : ∃ y, w.ownsRow base e 1 (.slice (some ⟨g, 0, none⟩) (n + 1) c) (n + 1) (xs ++ [y]) := by
  have hl := h.1
  rcases h.2 with ⟨h1, _⟩ | ⟨_, _, cur, hv, hb, hg, hn, hm, hs, ht⟩
  · cases h1
  · cases hv
    obtain ⟨y, hy⟩ : ∃ y, cur.toList[n]? = some y := ⟨_, List.getElem?_eq_getElem (by simp; omega)⟩
    refine ⟨y, by simp; omega, .inr ⟨_, _, cur, rfl, hb, hg, hr, hm, hs, ?_⟩⟩
    rw [Nat.mul_one] at ht ⊢
    rw [take_at hy, ht]
set_option maxRecDepth 100000 in
set_option maxHeartbeats 4000000 in
theorem c_insert_shift (vs : List Value) (u : Value) (g n c i gv : Nat) (base : Nat) (w : World) (hown : w.ownsRow base 46 1 (.slice (some ⟨g, 0, none⟩) n c) n vs) (h1v : ∀ v ∈ vs, v.oneCell' = true) (hin : i < n) (hroom : n + 1 ≤ c) (hgv : w.heap[gv]? = some (.cells #[u] 46 (0, 0))) (hne : gv ≠ g) (hu : u.oneCell' = true) (hn : n ≤ 1000000) :
    Calls Tryz.prog 74 #[.slice (some ⟨g, 0, none⟩) n c, .int .i64 (i : Int), .slice (some ⟨gv, 0, none⟩) 1 1] w (InsPost base vs u n i (some g) w) := by
  obtain ⟨y, hwide⟩ := own_widen hown hroom
  have hlen : vs.length = n := by have := hown.1; omega
  have hcells : ∀ j v, (vs ++ [y])[j]? = some v → w.cell? ⟨g, j, none⟩ = some v := fun j v hj => by
    have := hwide.cells (g := g) rfl j v hj
    rw [Addr.add_lit, Nat.zero_add] at this
    exact this
  have hsome : ∀ j, j < n + 1 → (w.cell? ⟨g, j, none⟩).isSome = true := fun j hj => by
    obtain ⟨v, hv⟩ : ∃ v, (vs ++ [y])[j]? = some v := ⟨_, List.getElem?_eq_getElem (by simp; omega)⟩
    rw [hcells j v hv]
    rfl
  have hfree : ∀ j, w.frozen? ⟨g, j, none⟩ = false := fun j => by
    rcases hwide.2 with ⟨h1, _⟩ | ⟨g', c', cur, hv, _, hg, _⟩
    · cases h1
    · cases hv
      simp [World.frozen?, hg]
  have hshape : ∃ k, w.shape? g = some (46, k) ∧ k ≠ 0 := by
    rcases hwide.2 with ⟨h1, _⟩ | ⟨g', c', cur, hv, _, hg, hnc, _, hs, _⟩
    · cases h1
    · cases hv
      exact ⟨cur.size, by simp [World.shape?, hg], by omega⟩
  obtain ⟨kB, hsb, hkB⟩ := hshape
  have hsa : w.shape? gv = some (46, 1) := by simp [World.shape?, hgv]
  have hfa : w.frozen? ⟨gv, 0, none⟩ = false := by simp [World.frozen?, hgv]
  have hfe : w.frozen? ⟨gv, 1, none⟩ = false := by simp [World.frozen?, hgv]
  have hvv : w.cell? ⟨gv, 0, none⟩ = some u := by simp [World.cell?, hgv]
  have hc63 : c ≤ 9223372036854775807 := by
    have := hown.2
    rcases this with ⟨h1, _⟩ | ⟨g', c', cur, hv, _, _, _, hm, _⟩
    · cases h1
    · cases hv
      exact hm
  have hsz : (Tryz.prog.info? 46).map (·.size) = some 1 := by
    obtain ⟨i0, hi0, h0, h1, h2⟩ := info_parts info_row
    rw [hi0]
    simp [h1]
  have hov : ∀ lb cb, (callFunc 92 #[.slice (some ⟨gv, 0, none⟩) 1 1, .slice (some ⟨g, i + 1, none⟩) lb cb]).run Tryz.prog w = .ok (.value (.bool false)) w := fun lb cb => by
    rw [run_callFunc_extern Tryz.func92 (by kernel_rfl) (by kernel_rfl) (by kernel_rfl) (e := Extern.SlicesOverlaps.overlaps #[64, 64] #[4]) (by kernel_rfl),
      Lib.run_overlaps_apart w 64 4 46 Tryz.underlying64 1 (fun w => by kernel_rfl) ⟨gv, 0, none⟩ ⟨g, i + 1, none⟩ 1 1 lb cb hne _ _ 1 kB hsa hsb hkB hfa hfe]
    rfl
  have hdl : (vs.drop i).length = n - i := by rw [List.length_drop, hlen]
  have hcp1 : ∀ ty dc sc, (Builtin.copy_ #[64, 64] ty #[.slice (some ⟨g, i + 1, none⟩) (n - i) dc, .slice (some ⟨g, i, none⟩) (n + 1 - i) sc]).run Tryz.prog w.drew = .ok (goInt (vs.drop i).length) (w.drew.setCells g (i + 1) (vs.drop i)) := fun ty dc sc =>
    run_copy_cells w.drew _ _ ty 46 g (i + 1) (n - i) dc ⟨g, i, none⟩ (n + 1 - i) sc (vs.drop i) Tryz.underlying64 hsz (by rw [hdl]; simp only [Nat.min_def]; split <;> omega)
      (fun j v hj => by
        rw [Addr.add_lit]
        rw [List.getElem?_drop] at hj
        exact hcells (i + j) v (by rw [List.getElem?_append_left (List.getElem?_eq_some_iff.1 hj).1]; exact hj))
      (fun j hj => hsome _ (by omega)) (fun j _ => hfree _) (fun v hv => h1v v (List.mem_of_mem_drop hv))
  obtain ⟨W1, hW1⟩ : ∃ W1, W1 = w.drew.setCells g (i + 1) (vs.drop i) := ⟨_, rfl⟩
  have hsp1 : ∀ k, k < n + 1 → (W1.cell? ⟨g, k, none⟩).isSome = true := fun k hk => by
    rw [hW1]
    exact isSome_setCells g (vs.drop i) (i + 1) w.drew (fun j hj => hsome _ (by rw [hdl] at hj; omega)) k (hsome k hk)
  have hcp2 : ∀ (W : World), (∀ x, W.cell? x = W1.cell? x) → (∀ x, W.frozen? x = W1.frozen? x) → ∀ ty dc, (Builtin.copy_ #[64, 64] ty #[.slice (some ⟨g, i, none⟩) (n + 1 - i) dc, .slice (some ⟨gv, 0, none⟩) 1 1]).run Tryz.prog W = .ok (goInt [u].length) (W.setCells g i [u]) := fun W hWc hWf ty dc =>
    run_copy_cells W _ _ ty 46 g i (n + 1 - i) dc ⟨gv, 0, none⟩ 1 1 [u] Tryz.underlying64 hsz (by simp only [Nat.min_def, List.length_singleton]; split <;> omega)
      (fun j v hj => by
        have hj0 : j = 0 := by
          have := (List.getElem?_eq_some_iff.1 hj).1
          simp at this
          exact this
        subst hj0
        cases hj
        rw [Addr.add_lit, hWc, hW1, World.cell?_setCells_out g _ _ _ _ (fun h _ => absurd h hne)]
        exact hvv)
      (fun j hj => by rw [hWc]; simp at hj; exact hsp1 _ (by omega)) (fun j _ => by rw [hWf, hW1, World.frozen?_setCells]; exact hfree _) (fun x hx => by cases List.mem_singleton.1 hx; exact hu)
  rw [← hW1] at hcp1
  have HEND : Hid (∀ W, W = W1 → (W.setCells g i [u]).ownsRow base 46 1 (.slice (some ⟨g, 0, none⟩) (n + 1) c) (n + 1) (vs.take i ++ u :: vs.drop i) ∧ w.grownBy (W.setCells g i [u]) (some g)) := by
    intro W hWe
    rw [hWe]
    obtain ⟨s1, s2⟩ := own_setCells (vs.drop i) w.drew (i + 1) _ hwide.drew
    rw [← hW1] at s1 s2
    obtain ⟨s3, s4⟩ := own_setCells [u] W1 i _ s1
    refine ⟨?_, ⟨s4.os.trans s2.os, s4.tape.trans s2.tape, s4.output.trans s2.output, Nat.le_trans s2.size s4.size, fun k hk hne => (s4.block k (Nat.lt_of_lt_of_le hk s2.size) hne).trans (s2.block k hk hne)⟩⟩
    have e0 : (vs ++ [y]).take (i + 1) = vs.take (i + 1) := List.take_append_of_le_length (by omega)
    have hl1 : (vs.take (i + 1)).length = i + 1 := by rw [List.length_take]; omega
    have hl2 : (vs ++ [y]).length = n + 1 := by simp [hlen]
    have e1 : putL (vs ++ [y]) (i + 1) (vs.drop i) = vs.take (i + 1) ++ vs.drop i := by
      rw [putL_eq _ _ _ (by rw [hl2, hdl]; omega), e0, List.drop_of_length_le (l := vs ++ [y]) (by rw [hl2, hdl]; omega), List.append_nil]
    have e2 : putL (vs.take (i + 1) ++ vs.drop i) i [u] = vs.take i ++ u :: vs.drop i := by
      rw [putL_eq _ _ _ (by rw [List.length_append, hl1, List.length_singleton]; omega)]
      have e3 : (vs.take (i + 1) ++ vs.drop i).take i = vs.take i := by
        rw [List.take_append_of_le_length (by rw [hl1]; omega), List.take_take, Nat.min_eq_left (Nat.le_succ i)]
      have e4 : (vs.take (i + 1) ++ vs.drop i).drop (i + [u].length) = vs.drop i := by
        rw [List.length_singleton]
        exact List.drop_left' hl1
      rw [e3, e4]
      simp
    rw [e1, e2] at s3
    exact s3
  have hw1 : IntKind.i64.wrap ((i : Int) + 1) = (i : Int) + 1 := by rw [IntKind.wrap_i64]; omega
  have hw2 : IntKind.i64.wrap ((n : Int) + 1) = (n : Int) + 1 := by rw [IntKind.wrap_i64]; omega
  have hb1 : (0 : Int) ≤ (i : Int) + 1 := by omega
  have htn : ((i : Int) + 1).toNat = i + 1 := by omega
  have htn2 : ((n : Int) + 1).toNat = n + 1 := by omega
  have hb2 : ¬ (c = i + 1) := by omega
  have hb3 : (i : Int) ≤ (n : Int) + 1 := by omega
  have hb4 : ¬ (c = i) := by omega
  have hb5 : ¬ ((i : Int) = (n : Int)) := by omega
  have hb6 : (i : Int) ≤ (n : Int) := by omega
  have hb7 : (i : Int) + 1 ≤ (n : Int) + 1 := by omega
  have hb8 : (n : Int) + 1 ≤ (c : Int) := by omega
  have hb9 : ¬ ((c : Int) < (n : Int) + 1) := by omega
  have HW1 := Lib.hid hW1
  clear hown hwide hcells hsome hfree hsa hsb hfa hfe hvv hsz hdl hsp1 hlen hgv hW1
  go_enter Tryz.func74, Tryz.ntmps74
  go_wp2_with (simp only [hov])
  have mixed : Tryz.prog.follows .mixedOrders = true := by kernel_rfl
  go_region_law_o (refine step_copy_runI rfl _ _ 64 64 rfl _ _ (by simp [Act.eval, Act.put]) (by simp [Act.eval, Act.put]) (hcp1 _ _ _) ?_)
  go_wp2_with (at_builtin; refine wpList_copy_runI _ rfl _ _ 64 64 rfl _ _ rfl rfl (hcp2 _ (fun _ => rfl) (fun _ => rfl) _ _) ?_)
  go_returns
  exact ⟨g, c, rfl, (HEND.out _ rfl).1, (HEND.out _ rfl).2, .inl rfl⟩
set_option maxRecDepth 100000 in
set_option maxHeartbeats 4000000 in
theorem c_insert_grow (vs : List Value) (u : Value) (g n c i gv : Nat) (base : Nat) (w : World) (hown : w.ownsRow base 46 1 (.slice (some ⟨g, 0, none⟩) n c) n vs) (h1v : ∀ v ∈ vs, v.oneCell' = true) (hin : i < n) (hroom : c < n + 1) (hvv : w.cell? ⟨gv, 0, none⟩ = some u) (hu : u.oneCell' = true) (hn : n ≤ 1000000) (hb : base ≤ w.heap.size) :
    Calls Tryz.prog 74 #[.slice (some ⟨g, 0, none⟩) n c, .int .i64 (i : Int), .slice (some ⟨gv, 0, none⟩) 1 1] w (InsPost base vs u n i none w) := by
  have hlen : vs.length = n := by have := hown.1; omega
  have hnc : n ≤ c := (cap_of_own hown).1
  obtain rfl : c = n := by omega
  have hcells : ∀ j v, vs[j]? = some v → w.cell? ⟨g, j, none⟩ = some v := fun j v hj => by
    have := hown.cells (g := g) rfl j v hj
    rw [Addr.add_lit, Nat.zero_add] at this
    exact this
  obtain ⟨i0, hi0, hz0, hzs, hzb⟩ := info_parts info_row
  have hsz : (Tryz.prog.info? 46).map (·.size) = some 1 := by rw [hi0]; simp [hzs]
  have hgw : g < w.heap.size := (hown.lt g rfl).2
  have hvw : gv < w.heap.size := World.block_lt_of_cell? w ⟨gv, 0, none⟩ hvv
  have hkk : (c : Int) + 1 - (i : Int) = ((c + 1 - i : Nat) : Int) := by omega
  have hik : i + (c + 1 - i) = c + 1 := by omega
  have hold : (Builtin.firstCells i0.size i (.slice (some ⟨g, 0, none⟩) i c)).run Tryz.prog w.drew = .ok (vs.take i).toArray w.drew := by
    rw [hzs]
    exact run_firstCells_some w.drew 1 i ⟨g, 0, none⟩ i c (vs.take i) (by rw [List.length_take]; omega) (fun j v hj => by
      rw [Addr.add_lit, Nat.zero_add]
      rw [List.getElem?_take] at hj
      split at hj
      · exact hcells j v hj
      · cases hj)
  obtain ⟨G, hG⟩ : ∃ G, G = grownCap w (c + 1) c 46 := ⟨_, rfl⟩
  obtain ⟨ROW, hROW⟩ : ∃ ROW : Array Value, ROW = (vs.take i).toArray ++ Builtin.zeroCells (Value.slice none 0 0).cells (c + 1 - i) ++ Builtin.zeroCells (Value.slice none 0 0).cells (G - (c + 1)) := ⟨_, rfl⟩
  have hrz : ∀ ty, (Builtin.append_ #[64, 3] ty #[.slice (some ⟨g, 0, none⟩) i c, .int .i64 ((c : Int) + 1 - (i : Int))]).run Tryz.prog w = .ok (.slice (some ⟨w.heap.size, 0, none⟩) (c + 1) G) (w.drew.alloc (.cells ROW 46)) := fun ty => by
    have h := Lib.run_append_grow_zeros w 64 3 ty 46 i0 _ .i64 .i64 Tryz.underlying64 Tryz.underlying3 hi0 hz0 (some ⟨g, 0, none⟩) i c (vs.take i) hold (c + 1 - i) (by omega) (by omega) (by omega) (by omega) (by rw [hzb]; omega) (by rw [hzb, hik]; exact growslice_fits hroom (by omega))
    rw [hik] at h
    rw [hkk, hROW, hG]
    exact h
  have hGn : c + 1 ≤ G := by rw [hG]; exact grownCap_ge w _ _ _
  have hG63 : G ≤ maxLen := by
    rw [hG]
    exact grownCap_le_maxLen w (c + 1) c 46 (by unfold maxLen; omega)
  have hRs : ROW.size = G * 1 := by
    rw [hROW]
    simp [Builtin.zeroCells, Value.cells]
    omega
  have hRt : (ROW.toList.take (c + 1)).take i = vs.take i := by
    rw [List.take_take, Nat.min_eq_left (by omega), hROW, Array.toList_append, Array.toList_append, List.append_assoc]
    rw [show (vs.take i).toArray.toList = vs.take i from rfl]
    rw [List.take_append_of_le_length (by rw [List.length_take]; omega), List.take_take, Nat.min_self]
  have hXl : (ROW.toList.take (c + 1)).length = c + 1 := by rw [List.length_take, Array.length_toList, hRs]; omega
  obtain ⟨W1, hW1⟩ : ∃ W1, W1 = w.drew.alloc (.cells ROW 46) := ⟨_, rfl⟩
  have rowW1 : W1.ownsRow base 46 1 (.slice (some ⟨w.heap.size, 0, none⟩) (c + 1) G) (c + 1) (ROW.toList.take (c + 1)) := by
    refine ⟨by rw [hXl]; omega, .inr ⟨w.heap.size, G, ROW, rfl, hb, ?_, hGn, hG63, hRs, by rw [Nat.mul_one]⟩⟩
    rw [hW1]
    exact heap_alloc_new w.drew _
  have gr1 : w.grownBy W1 none := by
    rw [hW1]
    exact ⟨rfl, rfl, rfl, by simp, fun k hk _ => heap_alloc_old w.drew _ hk⟩
  have hN : ∀ j, j < c + 1 → (W1.cell? ⟨w.heap.size, j, none⟩).isSome = true := fun j hj => by
    obtain ⟨v, hv⟩ : ∃ v, (ROW.toList.take (c + 1))[j]? = some v := ⟨_, List.getElem?_eq_getElem (by omega)⟩
    have := rowW1.cells (g := w.heap.size) rfl j v hv
    rw [Addr.add_lit, Nat.zero_add] at this
    rw [this]
    rfl
  have hNf : ∀ j, W1.frozen? ⟨w.heap.size, j, none⟩ = false := fun j => by rw [hW1]; exact World.frozen?_alloc_at (w := w.drew) ROW _ w.heap.size j rfl
  have hOb : ∀ b j v, w.cell? ⟨b, j, none⟩ = some v → W1.cell? ⟨b, j, none⟩ = some v := fun b j v h => by
    rw [hW1]
    exact keep (ext_alloc (ext_drew (Below.refl _ w)) _) h
  have hcpA : ∀ (W : World), (∀ x, W.cell? x = W1.cell? x) → (∀ x, W.frozen? x = W1.frozen? x) → ∀ ty dc, (Builtin.copy_ #[64, 64] ty #[.slice (some ⟨w.heap.size, i, none⟩) (c + 1 - i) dc, .slice (some ⟨gv, 0, none⟩) 1 1]).run Tryz.prog W = .ok (goInt [u].length) (W.setCells w.heap.size i [u]) := fun W hWc hWf ty dc =>
    run_copy_cells W _ _ ty 46 w.heap.size i (c + 1 - i) dc ⟨gv, 0, none⟩ 1 1 [u] Tryz.underlying64 hsz (by simp only [Nat.min_def, List.length_singleton]; split <;> omega)
      (fun j v hj => by
        have hj0 : j = 0 := by
          have := (List.getElem?_eq_some_iff.1 hj).1
          simp at this
          exact this
        subst hj0
        cases hj
        rw [Addr.add_lit, hWc]
        exact hOb gv 0 u hvv)
      (fun j hj => by rw [hWc]; simp at hj; exact hN _ (by omega)) (fun j _ => by rw [hWf]; exact hNf _) (fun x hx => by cases List.mem_singleton.1 hx; exact hu)
  have hdl : (vs.drop i).length = c - i := by rw [List.length_drop, hlen]
  have hbN : g ≠ w.heap.size := by omega
  have hcpB : ∀ (W : World), (∀ x, W.cell? x = (W1.setCells w.heap.size i [u]).cell? x) → (∀ x, W.frozen? x = (W1.setCells w.heap.size i [u]).frozen? x) → ∀ ty dc sc, (Builtin.copy_ #[64, 64] ty #[.slice (some ⟨w.heap.size, i + 1, none⟩) (c - i) dc, .slice (some ⟨g, i, none⟩) (c - i) sc]).run Tryz.prog W = .ok (goInt (vs.drop i).length) (W.setCells w.heap.size (i + 1) (vs.drop i)) := fun W hWc hWf ty dc sc =>
    run_copy_cells W _ _ ty 46 w.heap.size (i + 1) (c - i) dc ⟨g, i, none⟩ (c - i) sc (vs.drop i) Tryz.underlying64 hsz (by rw [hdl]; simp only [Nat.min_def]; split <;> omega)
      (fun j v hj => by
        rw [Addr.add_lit, hWc, World.cell?_setCells_out _ _ _ _ _ (fun h _ => absurd h hbN)]
        rw [List.getElem?_drop] at hj
        exact hOb g (i + j) v (hcells (i + j) v hj))
      (fun j hj => by rw [hWc]; exact isSome_setCells w.heap.size [u] i W1 (fun t ht => hN _ (by simp at ht; omega)) _ (hN _ (by omega)))
      (fun j _ => by rw [hWf, World.frozen?_setCells]; exact hNf _) (fun v hv => h1v v (List.mem_of_mem_drop hv))
  have HEND : Hid (∀ W, W = (W1.setCells w.heap.size i [u]).drew → (W.setCells w.heap.size (i + 1) (vs.drop i)).ownsRow base 46 1 (.slice (some ⟨w.heap.size, 0, none⟩) (c + 1) G) (c + 1) (vs.take i ++ u :: vs.drop i) ∧ w.grownBy (W.setCells w.heap.size (i + 1) (vs.drop i)) none) := by
    intro W hWe
    rw [hWe]
    obtain ⟨s1, s2_⟩ := own_setCells [u] W1 i _ rowW1
    have s2 : W1.grownBy (W1.setCells w.heap.size i [u]).drew (some w.heap.size) := ⟨s2_.os, s2_.tape, s2_.output, s2_.size, s2_.block⟩
    obtain ⟨s3, s4⟩ := own_setCells (vs.drop i) (W1.setCells w.heap.size i [u]).drew (i + 1) _ s1.drew
    have hl0 : ((ROW.toList.take (c + 1)).take i ++ [u]).length = i + 1 := by rw [hRt, List.length_append, List.length_take, List.length_singleton]; omega
    have e1 : putL (ROW.toList.take (c + 1)) i [u] = vs.take i ++ [u] ++ (ROW.toList.take (c + 1)).drop (i + 1) := by
      rw [putL_eq _ _ _ (by rw [hXl, List.length_singleton]; omega), hRt, List.length_singleton]
    have hl1 : (vs.take i ++ [u]).length = i + 1 := by rw [List.length_append, List.length_take, List.length_singleton]; omega
    have e2 : putL (vs.take i ++ [u] ++ (ROW.toList.take (c + 1)).drop (i + 1)) (i + 1) (vs.drop i) = vs.take i ++ u :: vs.drop i := by
      have hl2 : (vs.take i ++ [u] ++ (ROW.toList.take (c + 1)).drop (i + 1)).length = c + 1 := by rw [List.length_append, hl1, List.length_drop, hXl]; omega
      rw [putL_eq _ _ _ (by rw [hl2, hdl]; omega), List.drop_of_length_le (l := vs.take i ++ [u] ++ (ROW.toList.take (c + 1)).drop (i + 1)) (by rw [hl2, hdl]; omega), List.append_nil, List.take_left' hl1]
      simp
    rw [e1, e2] at s3
    refine ⟨s3, ⟨s4.os.trans (s2.os.trans gr1.os), s4.tape.trans (s2.tape.trans gr1.tape), s4.output.trans (s2.output.trans gr1.output), Nat.le_trans gr1.size (Nat.le_trans s2.size s4.size), fun k hk _ => ?_⟩⟩
    have hk1 : k < W1.heap.size := Nat.lt_of_lt_of_le hk gr1.size
    have hkN : some k ≠ some w.heap.size := by
      intro e
      cases e
      omega
    exact (s4.block k (Nat.lt_of_lt_of_le hk1 s2.size) hkN).trans ((s2.block k hk1 hkN).trans (gr1.block k hk (by simp)))
  have hw1 : IntKind.i64.wrap ((i : Int) + 1) = (i : Int) + 1 := by rw [IntKind.wrap_i64]; omega
  have hw2 : IntKind.i64.wrap ((c : Int) + 1) = (c : Int) + 1 := by rw [IntKind.wrap_i64]; omega
  have hw3 : IntKind.i64.wrap ((c : Int) + 1 - (i : Int)) = (c : Int) + 1 - (i : Int) := by rw [IntKind.wrap_i64]; omega
  have hb1 : (0 : Int) ≤ (i : Int) + 1 := by omega
  have htn : ((i : Int) + 1).toNat = i + 1 := by omega
  have hGi : ¬ (G = i) := by omega
  have hGim : ¬ (G = i + 1) := by omega
  have hci : ¬ (c = i) := by omega
  have hb5 : ¬ ((i : Int) = (c : Int)) := by omega
  have hb6 : (i : Int) ≤ (c : Int) := by omega
  have hb7 : (i : Int) ≤ (c : Int) + 1 := by omega
  have hb8 : (i : Int) + 1 ≤ (c : Int) + 1 := by omega
  have hb9 : (c : Int) < (c : Int) + 1 := by omega
  have hE1 : ∀ x, ((w.alloc (.cells ROW 46)).drew).cell? x = W1.cell? x := fun x => by rw [hW1]; rfl
  have hE2 : ∀ x, ((w.alloc (.cells ROW 46)).drew).frozen? x = W1.frozen? x := fun x => by rw [hW1]; rfl
  have hF1 : ∀ x, (((w.alloc (.cells ROW 46)).drew.setCells w.heap.size i [u]).drew).cell? x = (W1.setCells w.heap.size i [u]).cell? x := fun x => by rw [hW1]; rfl
  have hF2 : ∀ x, (((w.alloc (.cells ROW 46)).drew.setCells w.heap.size i [u]).drew).frozen? x = (W1.setCells w.heap.size i [u]).frozen? x := fun x => by rw [hW1]; rfl
  have mixed : Tryz.prog.follows .mixedOrders = true := by kernel_rfl
  have HW1 := Lib.hid hW1
  clear hown hcells hold hkk hik hN hNf hOb hXl hRt hRs rowW1 gr1 hG hROW hlen hdl hsz
  go_enter Tryz.func74, Tryz.ntmps74
  go_wp2_with (first
    | (at_builtin; refine Lib.wpList_append_run _ rfl _ _ _ _ rfl _ _ rfl rfl _ _ (hrz _) ?_)
    | (at_builtin; refine wpList_copy_runI _ rfl _ _ 64 64 rfl _ _ rfl rfl (hcpA _ hE1 hE2 _ _) ?_))
  go_region_law_o (refine step_copy_runI rfl _ _ 64 64 rfl (.slice (some ⟨w.heap.size, i + 1, none⟩) (c - i) (G - (i + 1))) (.slice (some ⟨g, i, none⟩) (c - i) (c - i)) (by simp [Act.eval, Act.put]) (by simp [Act.eval, Act.put]) (hcpB _ hF1 hF2 3 (G - (i + 1)) (c - i)) ?_)
  go_wp2
  go_returns
  exact ⟨w.heap.size, G, rfl, (HEND.out _ (by rw [HW1.out]; rfl)).1, (HEND.out _ (by rw [HW1.out]; rfl)).2, .inr (Nat.le_refl _)⟩
end Go.Proofs.YtpgbenijjodoeaaGreat
