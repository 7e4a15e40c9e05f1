/- A tuple.Rows in memory; the walks of its set, Len, Arity, of NewRows, of slices.Clone at texts. -/
import Derived.Test.YthjpfplebbnbpaaGreatFind
namespace Go.Proofs.YthjpfplebbnbpaaGreat
open Go.ChangeShapes Go.WideShapes Go.ChangeAt Go.RowKit
theorem own_strs {w : World} {base : Nat} {a : Option Addr} {n cap : Nat} {xs : List ByteArray} (h : w.ownsRow base 9 1 (.slice a n cap) n (xs.map Value.string)) (hn : n ≤ maxLen) : StrsAt w a n xs := by
  have hl := h.1
  rw [List.length_map, Nat.mul_one] at hl
  refine ⟨hn, hl, fun i x hx => ?_⟩
  have hi := (List.getElem?_eq_some_iff.1 hx).1
  rcases h.2 with ⟨h1, h0⟩ | ⟨g, c', cur, hv, _⟩
  · omega
  · cases hv
    have := h.cells (g := g) rfl i (.string x) (by rw [List.getElem?_map, hx]; rfl)
    rw [Addr.add_lit] at this
    exact ⟨g, 0, rfl, by simpa [strAt] using this⟩
theorem own_len {w : World} {base n size : Nat} {e : TypeId} {a : Option Addr} {c m : Nat} {xs : List Value} (h : w.ownsRow base e size (.slice a m c) n xs) : n ≤ maxLen ∧ m = n := by
  rcases h.2 with ⟨h1, h0⟩ | ⟨g, c', cur, hv, _, _, hn, hm, _⟩
  · cases h1
    subst h0
    exact ⟨Nat.zero_le _, rfl⟩
  · cases hv
    exact ⟨Nat.le_trans hn hm, rfl⟩
/-- The Rows at block pb: of ar columns, the rows rs; their list is the call's own, from block lo on. -/
structure RowsV (w : World) (lo pb ar : Nat) (rs : List (List ByteArray)) : Prop where
  lt : pb < lo
  c0 : w.cell? ⟨pb, 0, none⟩ = some orderV
  c2 : w.cell? ⟨pb, 2, none⟩ = some (.int .i64 (ar : Int))
  free : w.frozen? ⟨pb, 1, none⟩ = false
  row : ∃ (a : Option Addr) (c : Nat) (vs : List Value), w.cell? ⟨pb, 1, none⟩ = some (.slice a rs.length c) ∧ w.ownsRow lo 46 1 (.slice a rs.length c) rs.length vs ∧ ∀ (i : Nat) (r : List ByteArray) (v : Value), rs[i]? = some r → vs[i]? = some v → w.ownsRow lo 9 1 v r.length (r.map Value.string)
theorem RowsV.items {w : World} {lo pb ar : Nat} {rs : List (List ByteArray)} (h : RowsV w lo pb ar rs) (hn : rs.length ≤ maxLen) : ∃ a c, w.cell? ⟨pb, 1, none⟩ = some (.slice a rs.length c) ∧ ItemsAt w a rs.length rs := by
  obtain ⟨a, c, vs, h1, h2, h3⟩ := h.row
  refine ⟨a, c, h1, hn, rfl, fun i r hr => ?_⟩
  have hl := h2.1
  have hi := (List.getElem?_eq_some_iff.1 hr).1
  obtain ⟨v, hv⟩ : ∃ v, vs[i]? = some v := ⟨_, List.getElem?_eq_getElem (by omega)⟩
  have h5 := h3 i r v hr hv
  obtain ⟨a', c', rfl, _⟩ := own_form h5
  have h4 := own_strs h5 (own_len h5).1
  rcases h2.2 with ⟨e1, e2⟩ | ⟨g, c1, cur, e1, _⟩
  · omega
  · cases e1
    have := h2.cells (g := g) rfl i _ hv
    rw [Addr.add_lit] at this
    exact ⟨g, 0, rfl, a', r.length, c', by rw [Nat.mul_one]; exact this, h4⟩
set_option maxRecDepth 100000 in
theorem c_set (lo pb ar : Nat) (rs : List (List ByteArray)) (w : World) (h : RowsV w lo pb ar rs) :
    Calls Tryz.prog 58 #[.pointer (some ⟨pb, 0, none⟩)] w fun e w' => e = .returned (.pointer (some ⟨pb, 0, none⟩)) ∧ w' = w := by
  have c0 := h.c0
  have eqf := func_eq
  clear h
  go_enter Tryz.func58, Tryz.ntmps58
  go_wp2
  go_returns
  exact ⟨rfl, rfl⟩
theorem c_lenS (lo pb ar : Nat) (rs : List (List ByteArray)) (w : World) (h : RowsV w lo pb ar rs) :
    Calls Tryz.prog 59 #[.pointer (some ⟨pb, 0, none⟩)] w fun e w' => e = .returned (.int .i64 (rs.length : Nat)) ∧ w' = w := by
  obtain ⟨a, c, vs, h1, _⟩ := h.row
  go_enter Tryz.func59, Tryz.ntmps59
  go_wp2
  go_returns
  exact ⟨rfl, rfl⟩
theorem c_lenR (lo pb ar : Nat) (rs : List (List ByteArray)) (w : World) (h : RowsV w lo pb ar rs) :
    Calls Tryz.prog 24 #[.pointer (some ⟨pb, 0, none⟩)] w fun e w' => e = .returned (.int .i64 (rs.length : Nat)) ∧ w' = w := by
  have H := Lib.hid h
  clear h
  go_enter Tryz.func24, Tryz.ntmps24
  go_wp2_with (first
    | (go_at_call 58; (with_reducible refine (c_set lo pb ar rs _ H.out).mono ?_); rintro e w1 ⟨rfl, hw1⟩; obtain rfl := hw1.symm)
    | (go_at_call 59; (with_reducible refine (c_lenS lo pb ar rs _ H.out).mono ?_); rintro e w1 ⟨rfl, hw1⟩; obtain rfl := hw1.symm))
  go_returns
  exact ⟨rfl, rfl⟩
theorem c_arity (lo pb ar : Nat) (rs : List (List ByteArray)) (w : World) (h : RowsV w lo pb ar rs) :
    Calls Tryz.prog 22 #[.pointer (some ⟨pb, 0, none⟩)] w fun e w' => e = .returned (.int .i64 (ar : Int)) ∧ w' = w := by
  have c2 := h.c2
  clear h
  go_enter Tryz.func22, Tryz.ntmps22
  go_wp2
  go_returns
  exact ⟨rfl, rfl⟩
def newRowsV (ar : Int) (pb : Nat) : Value := if 0 ≤ ar ∧ ar ≤ 64 then .pointer (some ⟨pb, 0, none⟩) else .pointer none
theorem c_newRows (ar : Nat) (har : ar ≤ 64) (w : World) :
    Calls Tryz.prog 51 #[.int .i64 (ar : Int)] w fun e w' => e = .returned (.tuple #[.pointer (some ⟨w.heap.size, 0, none⟩), .int .i64 0]) ∧ RowsV w' w'.heap.size w.heap.size ar [] ∧ Ext w w' := by
  have h1 : ¬ ((ar : Int) < 0) := by omega
  have h2 : ¬ ((64 : Int) < (ar : Int)) := by omega
  go_enter Tryz.func51, Tryz.ntmps51
  go_wp2
  go_ret2
  refine ⟨rfl, ⟨by simp, by go_simp, by go_simp, by go_simp, none, 0, [], by go_simp, World.ownsRow_nil _ _ _ _, fun i r v h => by simp at h⟩, ext_alloc (Below.refl _ _) _⟩
theorem c_newRows_no (ar : Int) (har : ar < 0 ∨ 64 < ar) (w : World) :
    Calls Tryz.prog 51 #[.int .i64 ar] w fun e w' => e = .returned (.tuple #[.pointer none, .int .i64 2]) ∧ w' = w := by
  obtain ⟨b, hb⟩ : ∃ b, decide (ar < 0) = b := ⟨_, rfl⟩
  cases b with
  | true =>
    have h1 : ar < 0 := by simpa using hb
    clear hb har
    go_enter Tryz.func51, Tryz.ntmps51
    go_wp2
    go_ret2
    exact ⟨rfl, rfl⟩
  | false =>
    have h1 : ¬ ar < 0 := by simpa using hb
    have h2 : 64 < ar := by omega
    clear hb har
    go_enter Tryz.func51, Tryz.ntmps51
    go_wp2
    go_ret2
    exact ⟨rfl, rfl⟩
theorem info_str : (Tryz.prog.info? 9).map (fun i => (i.zero, i.size, i.bytes)) = some (some (.string ⟨#[]⟩), 1, 16) := by kernel_rfl
theorem nil_eqS (w : World) : (binOp .eql 46 (.slice none 0 0) (.slice none 0 0)).run Tryz.prog w = .ok (.bool true) w := by kernel_rfl
theorem some_eqS (ad : Addr) (n cap : Nat) (w : World) : (binOp .eql 46 (.slice (some ad) n cap) (.slice none 0 0)).run Tryz.prog w = .ok (.bool false) w := by kernel_rfl
theorem str_cells {w : World} {a : Option Addr} {n : Nat} {xs : List ByteArray} (h : StrsAt w a n xs) : (xs.map Value.string).length = n * 1 ∧ (∀ ad, a = some ad → ∀ j u, (xs.map Value.string)[j]? = some u → w.cell? (ad.add j) = some u) ∧ ∀ u ∈ xs.map Value.string, u.oneCell' = true := by
  refine ⟨by rw [List.length_map, h.2.1, Nat.mul_one], fun ad e j u hu => ?_, fun u hu => ?_⟩
  · rw [List.getElem?_map] at hu
    obtain ⟨x, hx, rfl⟩ := Option.map_eq_some_iff.1 hu
    obtain ⟨b, off, e2, hc⟩ := h.2.2 j x hx
    rw [e] at e2
    cases e2
    rw [Addr.add_lit]
    simpa [strAt] using hc
  · obtain ⟨x, _, rfl⟩ := List.mem_map.1 hu
    rfl
theorem c_cloneS (xs : List ByteArray) (a : Option Addr) (n cap : Nat) (w : World) (h : StrsAt w a n xs) (hn : n ≤ 8796093022207) (hc : a = none → n = 0 ∧ cap = 0) :
    Calls Tryz.prog 47 #[.slice a n cap] w fun e w' => ∃ a' c', e = .returned (.slice a' n c') ∧ w'.ownsRow w.heap.size 9 1 (.slice a' n c') n (xs.map Value.string) ∧ (a = none → a' = none) ∧ Ext w w' := by
  have H := Lib.hid h
  clear h
  cases a with
  | none =>
    obtain ⟨rfl, rfl⟩ := hc rfl
    have hx : xs = [] := List.eq_nil_of_length_eq_zero H.out.2.1
    subst hx
    have eqn := nil_eqS
    go_enter Tryz.func47, Tryz.ntmps47
    go_wp2
    go_returns
    exact ⟨none, 0, rfl, World.ownsRow_nil _ _ _ _, by simp, Below.refl _ _⟩
  | some ad =>
    clear hc
    obtain ⟨i0, hi, hz0, hz1, hz2⟩ := info_parts info_str
    obtain ⟨il, ic, io⟩ := str_cells (H.out.keep (ext_alloc (Below.refl _ _) (.cells #[] 9)))
    have IL := Lib.hid il
    have IC := Lib.hid ic
    have IO := Lib.hid io
    have H3 : Hid (0 + n ≤ maxLen) := by show _ ≤ _; unfold maxLen; omega
    have H4 : Hid ((0 + n) * 16 ≤ 140737488355328) := by show _ ≤ _; omega
    have hown0 : (w.alloc (.cells #[] 9)).ownsRow w.heap.size 9 1 (.slice (some ⟨w.heap.size, 0, none⟩) 0 0) 0 [] := World.ownsRow_lit w #[] 0 (Nat.le_refl _) (by unfold maxLen; omega) rfl
    have HO := Lib.hid hown0
    have eqn := some_eqS ad n cap
    clear il ic io hown0
    go_enter Tryz.func47, Tryz.ntmps47
    go_wp2_with (at_builtin; go_loud (refine wpList_append_any rfl _ _ 46 rfl w.heap.size 9 i0 (.string ⟨#[]⟩) 1 16 Tryz.underlying46 hi hz0 hz1 hz2 rfl (by decide) _ _ _ rfl HO.out (some ad) n cap (xs.map Value.string) rfl (by intro h; cases h) IL.out IC.out IO.out H3.out H4.out (size_alloc_le (Nat.le_refl _)) ?_); intro v1 w1 own1 g1)
    obtain ⟨a1, c1, rfl, _⟩ := own_form own1
    have hb := ext_ownB (ext_alloc (Below.refl _ w : Ext w w) _) g1 (by intro g e; cases e; exact Nat.le_refl _)
    go_returns
    rw [Nat.zero_add, List.nil_append] at own1
    exact ⟨a1, c1, by rw [Nat.zero_add]; rfl, own1, fun h => (by cases h), hb⟩
/-- May these be a row's texts? -/
def mayRow (xs : List ByteArray) : Bool := !(xs.any fun x => decide (4096 < x.size))
theorem c_long (x : ByteArray) (w : World) : Calls Tryz.prog 84 #[.string x] w fun e w' => e = .returned (.bool (decide (4096 < x.size))) ∧ w' = w := by
  obtain ⟨b, hb⟩ : ∃ b, decide (4096 < x.size) = b := ⟨_, rfl⟩
  rw [hb]
  have hb2 : decide ((4096 : Int) < (x.size : Int)) = b := by
    rw [← hb]
    simp only [decide_eq_decide]
    omega
  clear hb
  go_enter Tryz.func84, Tryz.ntmps84
  go_wp2
  go_returns
  exact ⟨by first | rfl | (simp [hb2]), rfl⟩
/-- Where the first long text is. -/
def longAt : List ByteArray → Nat → Int
  | [], _ => -1
  | x :: l, k => if 4096 < x.size then (k : Int) else longAt l (k + 1)
theorem longAt_any (l : List ByteArray) (k : Nat) : decide (0 ≤ longAt l k) = l.any fun x => decide (4096 < x.size) := by
  induction l generalizing k with
  | nil => rfl
  | cons x l ih =>
    rw [longAt, List.any_cons]
    by_cases h : 4096 < x.size
    · rw [if_pos h]
      simp [h]
    · rw [if_neg h, ih]
      simp [h]
theorem c_indexF (xs : List ByteArray) (a : Option Addr) (n cap : Nat) (w : World) (h : StrsAt w a n xs) :
    Calls Tryz.prog 96 #[.slice a n cap, .func (.func 84) #[] #[]] w fun e w' => e = .returned (.int .i64 (longAt xs 0)) ∧ w' = w := by
  have H := Lib.hid h
  have HL := Lib.hid h.2.1
  have hn : n ≤ 9223372036854775807 := h.1
  clear h
  obtain ⟨R, hR⟩ : ∃ R, R = longAt xs 0 := ⟨_, rfl⟩
  rw [← hR]
  have FIN := Lib.hid hR
  clear hR
  go_enter Tryz.func96, Tryz.ntmps96
  go_wp2
  go_loopw [8] (fun v wj => ∃ k : Nat, k ≤ n ∧ v = .int .i64 (k : Int) ∧ wj = w ∧ R = longAt (xs.drop k) k) (fun v _ => n - (intOf v).toNat)
  case atStart => exact ⟨0, by omega, rfl, rfl, by rw [FIN.out, List.drop_zero]⟩
  case round =>
    obtain ⟨k, hk, rfl, rfl, hq⟩ := hrel
    have HQ := Lib.hid hq
    clear hq
    by_cases hlt : k < n
    · have hki : (k : Int) < (n : Int) := by omega
      obtain ⟨x, b1, o1, hx, rfl, h1⟩ := H.out.2.at hlt
      have HX := Lib.hid hx
      have g1 : wr.cell? ⟨b1, o1 + k, none⟩ = some (.string x) := by simpa [strAt] using h1
      clear hx h1
      obtain ⟨b, hb⟩ : ∃ b, decide (4096 < x.size) = b := ⟨_, rfl⟩
      have HB := Lib.hid hb
      have HST : Hid (R = if b = true then (k : Int) else longAt (xs.drop (k + 1)) (k + 1)) := by
        show _ = _
        rw [HQ.out, drop_at HX.out, longAt, ← hb]
        simp
      clear hb
      cases b with
      | true =>
        go_wp2_with (go_at_call 84; (with_reducible refine (c_long x _).mono ?_); rw [HB.out]; rintro e w1 ⟨rfl, hw1⟩; obtain rfl := hw1.symm)
        go_returns
        exact ⟨by rw [HST.out]; rfl, rfl⟩
      | false =>
        go_wp2_with (go_at_call 84; (with_reducible refine (c_long x _).mono ?_); rw [HB.out]; rintro e w1 ⟨rfl, hw1⟩; obtain rfl := hw1.symm)
        go_roundw
        case rel => exact ⟨k + 1, by omega, by go_num, by first | trivial | rfl, by rw [HST.out]; rfl⟩
        case measure => simp [intOf]; omega
    · obtain rfl : k = n := by omega
      have hge : ¬ (k : Int) < (k : Int) := by omega
      go_wp2
      go_returns
      exact ⟨by rw [HQ.out, List.drop_of_length_le (by have := HL.out; omega)]; rfl, rfl⟩
theorem c_contF (xs : List ByteArray) (a : Option Addr) (n cap : Nat) (w : World) (h : StrsAt w a n xs) :
    Calls Tryz.prog 83 #[.slice a n cap, .func (.func 84) #[] #[]] w fun e w' => e = .returned (.bool (decide (0 ≤ longAt xs 0))) ∧ w' = w := by
  have H := Lib.hid h
  clear h
  go_enter Tryz.func83, Tryz.ntmps83
  go_wp2_with (go_at_call 96; (with_reducible refine (c_indexF xs _ _ _ _ H.out).mono ?_); rintro e w1 ⟨rfl, hw1⟩; obtain rfl := hw1.symm)
  go_returns
  exact ⟨rfl, rfl⟩
theorem c_tTexts (xs : List ByteArray) (a : Option Addr) (n cap : Nat) (w : World) (h : StrsAt w a n xs) :
    Calls Tryz.prog 67 #[.slice a n cap] w fun e w' => e = .returned (.bool (mayRow xs)) ∧ w' = w := by
  have H := Lib.hid h
  clear h
  obtain ⟨b, hb⟩ : ∃ b, decide (0 ≤ longAt xs 0) = b := ⟨_, rfl⟩
  have HB := Lib.hid hb
  have HM : Hid (mayRow xs = !b) := by
    show _ = _
    unfold mayRow
    rw [← hb, longAt_any]
  clear hb
  go_enter Tryz.func67, Tryz.ntmps67
  go_wp2_with (go_at_call 83; (with_reducible refine (c_contF xs _ _ _ _ H.out).mono ?_); rw [HB.out]; rintro e w1 ⟨rfl, hw1⟩; obtain rfl := hw1.symm)
  go_returns
  exact ⟨by rw [HM.out]; rfl, rfl⟩
end Go.Proofs.YthjpfplebbnbpaaGreat
