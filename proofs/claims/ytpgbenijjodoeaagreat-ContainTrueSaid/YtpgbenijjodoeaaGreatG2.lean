/- A tuple.Rows in memory; the walks of its set, Len, Arity, of NewRows, of slices.Clone at texts. The order of rows: a strict total order. No code of the program. -/
import Derived.Test.YtpgbenijjodoeaaGreatG1
namespace Go.Proofs.YtpgbenijjodoeaaGreat
open Go.ChangeShapes Go.WideShapes Go.ChangeAt Go.RowKit
theorem own_strs {w : World} {base : Nat} {a : Option Addr} {n cap : Nat} {xs : List ByteArray} (h : w.ownsRow base 9 1 (.slice a n cap) n (xs.map Value.string)) (hn : n ≤ maxLen) : StrsAt w a n xs := by
  have hl := h.1
  rw [List.length_map, Nat.mul_one] at hl
  refine ⟨hn, hl, fun i x hx => ?_⟩
  have hi := (List.getElem?_eq_some_iff.1 hx).1
  rcases h.2 with ⟨h1, h0⟩ | ⟨g, c', cur, hv, _⟩
  · omega
  · cases hv
    have := h.cells (g := g) rfl i (.string x) (by rw [List.getElem?_map, hx]; rfl)
    rw [Addr.add_lit] at this
    exact ⟨g, 0, rfl, by simpa [strAt] using this⟩
theorem own_len {w : World} {base n size : Nat} {e : TypeId} {a : Option Addr} {c m : Nat} {xs : List Value} (h : w.ownsRow base e size (.slice a m c) n xs) : n ≤ maxLen ∧ m = n := by
  rcases h.2 with ⟨h1, h0⟩ | ⟨g, c', cur, hv, _, _, hn, hm, _⟩
  · cases h1
    subst h0
    exact ⟨Nat.zero_le _, rfl⟩
  · cases hv
    exact ⟨Nat.le_trans hn hm, rfl⟩
/-- The Rows at block pb: of ar columns, the rows rs; their list is the call's own, from block lo on. -/
structure RowsV (w : World) (lo pb ar : Nat) (rs : List (List ByteArray)) : Prop where
  lt : pb < lo
  c0 : w.cell? ⟨pb, 0, none⟩ = some orderV
  c2 : w.cell? ⟨pb, 2, none⟩ = some (.int .i64 (ar : Int))
  free : w.frozen? ⟨pb, 1, none⟩ = false
  row : ∃ (a : Option Addr) (c : Nat) (vs : List Value), w.cell? ⟨pb, 1, none⟩ = some (.slice a rs.length c) ∧ w.ownsRow lo 46 1 (.slice a rs.length c) rs.length vs ∧ ∀ (i : Nat) (r : List ByteArray) (v : Value), rs[i]? = some r → vs[i]? = some v → w.ownsRow lo 9 1 v r.length (r.map Value.string)
theorem RowsV.items {w : World} {lo pb ar : Nat} {rs : List (List ByteArray)} (h : RowsV w lo pb ar rs) (hn : rs.length ≤ maxLen) : ∃ a c, w.cell? ⟨pb, 1, none⟩ = some (.slice a rs.length c) ∧ ItemsAt w a rs.length rs := by
  obtain ⟨a, c, vs, h1, h2, h3⟩ := h.row
  refine ⟨a, c, h1, hn, rfl, fun i r hr => ?_⟩
  have hl := h2.1
  have hi := (List.getElem?_eq_some_iff.1 hr).1
  obtain ⟨v, hv⟩ : ∃ v, vs[i]? = some v := ⟨_, List.getElem?_eq_getElem (by omega)⟩
  have h5 := h3 i r v hr hv
  obtain ⟨a', c', rfl, _⟩ := own_form h5
  have h4 := own_strs h5 (own_len h5).1
  rcases h2.2 with ⟨e1, e2⟩ | ⟨g, c1, cur, e1, _⟩
  · omega
  · cases e1
    have := h2.cells (g := g) rfl i _ hv
    rw [Addr.add_lit] at this
    exact ⟨g, 0, rfl, a', r.length, c', by rw [Nat.mul_one]; exact this, h4⟩
set_option maxRecDepth 100000 in
theorem c_set (lo pb ar : Nat) (rs : List (List ByteArray)) (w : World) (h : RowsV w lo pb ar rs) :
    Calls Tryz.prog 33 #[.pointer (some ⟨pb, 0, none⟩)] w fun e w' => e = .returned (.pointer (some ⟨pb, 0, none⟩)) ∧ w' = w := by
  have c0 := h.c0
  have eqf := func_eq
  clear h
  go_enter Tryz.func33, Tryz.ntmps33
  go_wp2
  go_returns
  exact ⟨rfl, rfl⟩
theorem c_lenS (lo pb ar : Nat) (rs : List (List ByteArray)) (w : World) (h : RowsV w lo pb ar rs) :
    Calls Tryz.prog 73 #[.pointer (some ⟨pb, 0, none⟩)] w fun e w' => e = .returned (.int .i64 (rs.length : Nat)) ∧ w' = w := by
  obtain ⟨a, c, vs, h1, _⟩ := h.row
  go_enter Tryz.func73, Tryz.ntmps73
  go_wp2
  go_returns
  exact ⟨rfl, rfl⟩
theorem c_lenR (lo pb ar : Nat) (rs : List (List ByteArray)) (w : World) (h : RowsV w lo pb ar rs) :
    Calls Tryz.prog 56 #[.pointer (some ⟨pb, 0, none⟩)] w fun e w' => e = .returned (.int .i64 (rs.length : Nat)) ∧ w' = w := by
  have H := Lib.hid h
  clear h
  go_enter Tryz.func56, Tryz.ntmps56
  go_wp2_with (first
    | (go_at_call 33; (with_reducible refine (c_set lo pb ar rs _ H.out).mono ?_); rintro e w1 ⟨rfl, hw1⟩; obtain rfl := hw1.symm)
    | (go_at_call 73; (with_reducible refine (c_lenS lo pb ar rs _ H.out).mono ?_); rintro e w1 ⟨rfl, hw1⟩; obtain rfl := hw1.symm))
  go_returns
  exact ⟨rfl, rfl⟩
theorem c_arity (lo pb ar : Nat) (rs : List (List ByteArray)) (w : World) (h : RowsV w lo pb ar rs) :
    Calls Tryz.prog 113 #[.pointer (some ⟨pb, 0, none⟩)] w fun e w' => e = .returned (.int .i64 (ar : Int)) ∧ w' = w := by
  have c2 := h.c2
  clear h
  go_enter Tryz.func113, Tryz.ntmps113
  go_wp2
  go_returns
  exact ⟨rfl, rfl⟩
theorem c_newRows_no (ar : Int) (har : ar < 0 ∨ 64 < ar) (w : World) :
    Calls Tryz.prog 27 #[.int .i64 ar] w fun e w' => e = .returned (.tuple #[.pointer none, .int .i64 2]) ∧ w' = w := by
  obtain ⟨b, hb⟩ : ∃ b, decide (ar < 0) = b := ⟨_, rfl⟩
  cases b with
  | true =>
    have h1 : ar < 0 := by simpa using hb
    clear hb har
    go_enter Tryz.func27, Tryz.ntmps27
    go_wp2
    go_ret2
    exact ⟨rfl, rfl⟩
  | false =>
    have h1 : ¬ ar < 0 := by simpa using hb
    have h2 : 64 < ar := by omega
    clear hb har
    go_enter Tryz.func27, Tryz.ntmps27
    go_wp2
    go_ret2
    exact ⟨rfl, rfl⟩
theorem info_str : (Tryz.prog.info? 9).map (fun i => (i.zero, i.size, i.bytes)) = some (some (.string ⟨#[]⟩), 1, 16) := by kernel_rfl
theorem nil_eqS (w : World) : (binOp .eql 46 (.slice none 0 0) (.slice none 0 0)).run Tryz.prog w = .ok (.bool true) w := by kernel_rfl
theorem some_eqS (ad : Addr) (n cap : Nat) (w : World) : (binOp .eql 46 (.slice (some ad) n cap) (.slice none 0 0)).run Tryz.prog w = .ok (.bool false) w := by kernel_rfl
theorem str_cells {w : World} {a : Option Addr} {n : Nat} {xs : List ByteArray} (h : StrsAt w a n xs) : (xs.map Value.string).length = n * 1 ∧ (∀ ad, a = some ad → ∀ j u, (xs.map Value.string)[j]? = some u → w.cell? (ad.add j) = some u) ∧ ∀ u ∈ xs.map Value.string, u.oneCell' = true := by
  refine ⟨by rw [List.length_map, h.2.1, Nat.mul_one], fun ad e j u hu => ?_, fun u hu => ?_⟩
  · rw [List.getElem?_map] at hu
    obtain ⟨x, hx, rfl⟩ := Option.map_eq_some_iff.1 hu
    obtain ⟨b, off, e2, hc⟩ := h.2.2 j x hx
    rw [e] at e2
    cases e2
    rw [Addr.add_lit]
    simpa [strAt] using hc
  · obtain ⟨x, _, rfl⟩ := List.mem_map.1 hu
    rfl
theorem c_cloneS (xs : List ByteArray) (a : Option Addr) (n cap : Nat) (w : World) (h : StrsAt w a n xs) (hn : n ≤ 8796093022207) (hc : a = none → n = 0 ∧ cap = 0) :
    Calls Tryz.prog 58 #[.slice a n cap] w fun e w' => ∃ a' c', e = .returned (.slice a' n c') ∧ w'.ownsRow w.heap.size 9 1 (.slice a' n c') n (xs.map Value.string) ∧ (a = none → a' = none) ∧ Ext w w' := by
  have H := Lib.hid h
  clear h
  cases a with
  | none =>
    obtain ⟨rfl, rfl⟩ := hc rfl
    have hx : xs = [] := List.eq_nil_of_length_eq_zero H.out.2.1
    subst hx
    have eqn := nil_eqS
    go_enter Tryz.func58, Tryz.ntmps58
    go_wp2
    go_returns
    exact ⟨none, 0, rfl, World.ownsRow_nil _ _ _ _, by simp, Below.refl _ _⟩
  | some ad =>
    clear hc
    obtain ⟨i0, hi, hz0, hz1, hz2⟩ := info_parts info_str
    obtain ⟨il, ic, io⟩ := str_cells (H.out.keep (ext_alloc (Below.refl _ _) (.cells #[] 9)))
    have IL := Lib.hid il
    have IC := Lib.hid ic
    have IO := Lib.hid io
    have H3 : Hid (0 + n ≤ maxLen) := by show _ ≤ _; unfold maxLen; omega
    have H4 : Hid ((0 + n) * 16 ≤ 140737488355328) := by show _ ≤ _; omega
    have hown0 : (w.alloc (.cells #[] 9)).ownsRow w.heap.size 9 1 (.slice (some ⟨w.heap.size, 0, none⟩) 0 0) 0 [] := World.ownsRow_lit w #[] 0 (Nat.le_refl _) (by unfold maxLen; omega) rfl
    have HO := Lib.hid hown0
    have eqn := some_eqS ad n cap
    clear il ic io hown0
    go_enter Tryz.func58, Tryz.ntmps58
    go_wp2_with (at_builtin; go_loud (refine wpList_append_any rfl _ _ 46 rfl w.heap.size 9 i0 (.string ⟨#[]⟩) 1 16 Tryz.underlying46 hi hz0 hz1 hz2 rfl (by decide) _ _ _ rfl HO.out (some ad) n cap (xs.map Value.string) rfl (by intro h; cases h) IL.out IC.out IO.out H3.out H4.out (size_alloc_le (Nat.le_refl _)) ?_); intro v1 w1 own1 g1)
    obtain ⟨a1, c1, rfl, _⟩ := own_form own1
    have hb := ext_ownB (ext_alloc (Below.refl _ w : Ext w w) _) g1 (by intro g e; cases e; exact Nat.le_refl _)
    go_returns
    rw [Nat.zero_add, List.nil_append] at own1
    exact ⟨a1, c1, by rw [Nat.zero_add]; rfl, own1, fun h => (by cases h), hb⟩
/-- May these be a row's texts? -/
def mayRow (xs : List ByteArray) : Bool := !(xs.any fun x => decide (4096 < x.size))
theorem c_long (x : ByteArray) (w : World) : Calls Tryz.prog 66 #[.string x] w fun e w' => e = .returned (.bool (decide (4096 < x.size))) ∧ w' = w := by
  obtain ⟨b, hb⟩ : ∃ b, decide (4096 < x.size) = b := ⟨_, rfl⟩
  rw [hb]
  have hb2 : decide ((4096 : Int) < (x.size : Int)) = b := by
    rw [← hb]
    simp only [decide_eq_decide]
    omega
  clear hb
  go_enter Tryz.func66, Tryz.ntmps66
  go_wp2
  go_returns
  exact ⟨by first | rfl | (simp [hb2]), rfl⟩
/-- Where the first long text is. -/
def longAt : List ByteArray → Nat → Int
  | [], _ => -1
  | x :: l, k => if 4096 < x.size then (k : Int) else longAt l (k + 1)
theorem longAt_any (l : List ByteArray) (k : Nat) : decide (0 ≤ longAt l k) = l.any fun x => decide (4096 < x.size) := by
  induction l generalizing k with
  | nil => rfl
  | cons x l ih =>
    rw [longAt, List.any_cons]
    by_cases h : 4096 < x.size
    · rw [if_pos h]
      simp [h]
    · rw [if_neg h, ih]
      simp [h]
theorem c_indexF (xs : List ByteArray) (a : Option Addr) (n cap : Nat) (w : World) (h : StrsAt w a n xs) :
    Calls Tryz.prog 80 #[.slice a n cap, .func (.func 66) #[] #[]] w fun e w' => e = .returned (.int .i64 (longAt xs 0)) ∧ w' = w := by
  have H := Lib.hid h
  have HL := Lib.hid h.2.1
  have hn : n ≤ 9223372036854775807 := h.1
  clear h
  obtain ⟨R, hR⟩ : ∃ R, R = longAt xs 0 := ⟨_, rfl⟩
  rw [← hR]
  have FIN := Lib.hid hR
  clear hR
  go_enter Tryz.func80, Tryz.ntmps80
  go_wp2
  go_loopw [8] (fun v wj => ∃ k : Nat, k ≤ n ∧ v = .int .i64 (k : Int) ∧ wj = w ∧ R = longAt (xs.drop k) k) (fun v _ => n - (intOf v).toNat)
  case atStart => exact ⟨0, by omega, rfl, rfl, by rw [FIN.out, List.drop_zero]⟩
  case round =>
    obtain ⟨k, hk, rfl, rfl, hq⟩ := hrel
    have HQ := Lib.hid hq
    clear hq
    by_cases hlt : k < n
    · have hki : (k : Int) < (n : Int) := by omega
      obtain ⟨x, b1, o1, hx, rfl, h1⟩ := H.out.2.at hlt
      have HX := Lib.hid hx
      have g1 : wr.cell? ⟨b1, o1 + k, none⟩ = some (.string x) := by simpa [strAt] using h1
      clear hx h1
      obtain ⟨b, hb⟩ : ∃ b, decide (4096 < x.size) = b := ⟨_, rfl⟩
      have HB := Lib.hid hb
      have HST : Hid (R = if b = true then (k : Int) else longAt (xs.drop (k + 1)) (k + 1)) := by
        show _ = _
        rw [HQ.out, drop_at HX.out, longAt, ← hb]
        simp
      clear hb
      cases b with
      | true =>
        go_wp2_with (go_at_call 66; (with_reducible refine (c_long x _).mono ?_); rw [HB.out]; rintro e w1 ⟨rfl, hw1⟩; obtain rfl := hw1.symm)
        go_returns
        exact ⟨by rw [HST.out]; rfl, rfl⟩
      | false =>
        go_wp2_with (go_at_call 66; (with_reducible refine (c_long x _).mono ?_); rw [HB.out]; rintro e w1 ⟨rfl, hw1⟩; obtain rfl := hw1.symm)
        go_roundw
        case rel => exact ⟨k + 1, by omega, by go_num, by first | trivial | rfl, by rw [HST.out]; rfl⟩
        case measure => simp [intOf]; omega
    · obtain rfl : k = n := by omega
      have hge : ¬ (k : Int) < (k : Int) := by omega
      go_wp2
      go_returns
      exact ⟨by rw [HQ.out, List.drop_of_length_le (by have := HL.out; omega)]; rfl, rfl⟩
theorem c_contF (xs : List ByteArray) (a : Option Addr) (n cap : Nat) (w : World) (h : StrsAt w a n xs) :
    Calls Tryz.prog 65 #[.slice a n cap, .func (.func 66) #[] #[]] w fun e w' => e = .returned (.bool (decide (0 ≤ longAt xs 0))) ∧ w' = w := by
  have H := Lib.hid h
  clear h
  go_enter Tryz.func65, Tryz.ntmps65
  go_wp2_with (go_at_call 80; (with_reducible refine (c_indexF xs _ _ _ _ H.out).mono ?_); rintro e w1 ⟨rfl, hw1⟩; obtain rfl := hw1.symm)
  go_returns
  exact ⟨rfl, rfl⟩
theorem c_tTexts (xs : List ByteArray) (a : Option Addr) (n cap : Nat) (w : World) (h : StrsAt w a n xs) :
    Calls Tryz.prog 44 #[.slice a n cap] w fun e w' => e = .returned (.bool (mayRow xs)) ∧ w' = w := by
  have H := Lib.hid h
  clear h
  obtain ⟨b, hb⟩ : ∃ b, decide (0 ≤ longAt xs 0) = b := ⟨_, rfl⟩
  have HB := Lib.hid hb
  have HM : Hid (mayRow xs = !b) := by
    show _ = _
    unfold mayRow
    rw [← hb, longAt_any]
  clear hb
  go_enter Tryz.func44, Tryz.ntmps44
  go_wp2_with (go_at_call 65; (with_reducible refine (c_contF xs _ _ _ _ H.out).mono ?_); rw [HB.out]; rintro e w1 ⟨rfl, hw1⟩; obtain rfl := hw1.symm)
  go_returns
  exact ⟨by rw [HM.out]; rfl, rfl⟩
end Go.Proofs.YtpgbenijjodoeaaGreat
namespace Go.Proofs.YtpgbenijjodoeaaGreat
open Go.ChangeShapes Go.WideShapes Go.ChangeAt Go.RowKit
theorem bl_cons (a b : UInt8) (x y : List UInt8) : Op.bytesLess (a :: x) (b :: y) = true ↔ a < b ∨ a = b ∧ Op.bytesLess x y = true := by
  simp [Op.bytesLess]
theorem bl_irr (x : List UInt8) : ¬ Op.bytesLess x x = true := by
  induction x with
  | nil => simp [Op.bytesLess]
  | cons a x ih =>
    rw [bl_cons]
    rintro (h | ⟨_, h⟩)
    · exact absurd h (by simp)
    · exact ih h
theorem bl_tri : ∀ (x y : List UInt8), Op.bytesLess x y = true ∨ x = y ∨ Op.bytesLess y x = true
  | [], [] => .inr (.inl rfl)
  | [], _ :: _ => .inl rfl
  | _ :: _, [] => .inr (.inr rfl)
  | a :: x, b :: y => by
    rcases Nat.lt_trichotomy a.toNat b.toNat with h | h | h
    · exact .inl ((bl_cons ..).2 (.inl (UInt8.lt_iff_toNat_lt.2 h)))
    · obtain rfl : a = b := UInt8.toNat_inj.1 h
      rcases bl_tri x y with h | h | h
      · exact .inl ((bl_cons ..).2 (.inr ⟨rfl, h⟩))
      · exact .inr (.inl (by rw [h]))
      · exact .inr (.inr ((bl_cons ..).2 (.inr ⟨rfl, h⟩)))
    · exact .inr (.inr ((bl_cons ..).2 (.inl (UInt8.lt_iff_toNat_lt.2 h))))
theorem bl_trans : ∀ (x y z : List UInt8), Op.bytesLess x y = true → Op.bytesLess y z = true → Op.bytesLess x z = true
  | _, _, [], _, h => by
    rename_i y _
    cases y <;> simp [Op.bytesLess] at h
  | [], _, _ :: _, _, _ => rfl
  | _ :: _, [], _ :: _, h, _ => by simp [Op.bytesLess] at h
  | a :: x, b :: y, c :: z, h, k => by
    rw [bl_cons] at h k ⊢
    rcases h with h | ⟨rfl, h⟩
    · rcases k with k | ⟨rfl, k⟩
      · left
        rw [UInt8.lt_iff_toNat_lt] at h k ⊢
        omega
      · exact .inl h
    · rcases k with k | ⟨rfl, k⟩
      · exact .inl k
      · exact .inr ⟨rfl, bl_trans x y z h k⟩
theorem toList_inj {a b : ByteArray} (h : a.toList = b.toList) : a = b := by
  have h1 := (toList_eq_iff a b.toList).1 h
  have h2 := (toList_eq_iff b b.toList).1 rfl
  rw [h1, ← h2]
theorem lt_irr (a : ByteArray) : ¬ ltB a a = true := bl_irr _
theorem lt_trans {a b c : ByteArray} (h : ltB a b = true) (k : ltB b c = true) : ltB a c = true := bl_trans _ _ _ h k
theorem lt_tri (a b : ByteArray) : ltB a b = true ∨ a = b ∨ ltB b a = true := by
  rcases bl_tri a.toList b.toList with h | h | h
  · exact .inl h
  · exact .inr (.inl (toList_inj h))
  · exact .inr (.inr h)
theorem cmpB_neg (a b : ByteArray) : cmpB a b < 0 ↔ ltB a b = true := by
  unfold cmpB
  by_cases h : ltB a b = true
  · simp [h]
  · by_cases h2 : a = b
    · simp [h2, lt_irr]
    · simp [h, h2]
theorem cmpB_zero (a b : ByteArray) : cmpB a b = 0 ↔ a = b := by
  unfold cmpB
  split
  · rename_i h
    constructor
    · intro h0; cases h0
    · rintro rfl; exact absurd h (lt_irr a)
  · split <;> simp [*]
theorem cmpB_swap (a b : ByteArray) : cmpB b a = - cmpB a b := by
  rcases lt_tri a b with h | rfl | h
  · have h2 : ¬ ltB b a = true := fun k => lt_irr a (lt_trans h k)
    have h3 : ¬ b = a := fun e => by subst e; exact lt_irr _ h
    simp [cmpB, h, h2, h3]
  · simp [cmpB, lt_irr]
  · have h2 : ¬ ltB a b = true := fun k => lt_irr a (lt_trans k h)
    have h3 : ¬ a = b := fun e => by subst e; exact lt_irr _ h
    simp [cmpB, h, h2, h3]
theorem cmpRow_zero : ∀ (x y : List ByteArray), cmpRow x y = 0 ↔ x = y
  | [], [] => by simp [cmpRow]
  | [], _ :: _ => by simp [cmpRow]
  | _ :: _, [] => by simp [cmpRow]
  | a :: x, b :: y => by
    rw [cmpRow]
    by_cases h : cmpB a b = 0
    · rw [if_neg (fun k => k h), cmpRow_zero x y]
      have := (cmpB_zero a b).1 h
      simp [this]
    · rw [if_pos h]
      constructor
      · intro k; exact absurd k h
      · intro k
        rw [List.cons.injEq] at k
        exact absurd ((cmpB_zero a b).2 k.1) h
theorem cmpRow_swap : ∀ (x y : List ByteArray), cmpRow y x = - cmpRow x y
  | [], [] => rfl
  | [], _ :: _ => rfl
  | _ :: _, [] => rfl
  | a :: x, b :: y => by
    rw [cmpRow, cmpRow, cmpB_swap a b]
    by_cases h : cmpB a b = 0
    · rw [if_neg (by omega), if_neg (fun k => k h), cmpRow_swap x y]
    · rw [if_pos (by omega), if_pos h]
theorem cmpRow_trans : ∀ (x y z : List ByteArray), cmpRow x y < 0 → cmpRow y z < 0 → cmpRow x z < 0
  | [], [], _, h, _ => by simp [cmpRow] at h
  | [], _ :: _, [], _, k => by simp [cmpRow] at k
  | [], _ :: _, _ :: _, _, _ => by simp [cmpRow]
  | _ :: _, [], _, h, _ => by simp [cmpRow] at h
  | _ :: _, _ :: _, [], _, k => by simp [cmpRow] at k
  | a :: x, b :: y, c :: z, h, k => by
    rw [cmpRow] at h k ⊢
    by_cases h1 : cmpB a b = 0
    · have e1 := (cmpB_zero a b).1 h1
      subst e1
      rw [if_neg (fun n => n h1)] at h
      by_cases k1 : cmpB a c = 0
      · rw [if_neg (fun n => n k1)] at k ⊢
        exact cmpRow_trans x y z h k
      · rw [if_pos k1] at k ⊢
        exact k
    · rw [if_pos h1] at h
      by_cases k1 : cmpB b c = 0
      · have e1 := (cmpB_zero b c).1 k1
        subst e1
        rw [if_pos h1]
        exact h
      · rw [if_pos k1] at k
        have h2 := lt_trans ((cmpB_neg a b).1 h) ((cmpB_neg b c).1 k)
        have h3 := (cmpB_neg a c).2 h2
        rw [if_pos (by omega)]
        exact h3
/-- Rows, rising, each once. -/
def Rising (rs : List (List ByteArray)) : Prop := rs.Pairwise fun a b => cmpRow a b < 0
theorem Rising.cut {rs : List (List ByteArray)} (h : Rising rs) (t : List ByteArray) : Cut rs t := by
  intro i j x y hij hx hy hlt
  by_cases he : i = j
  · subst he
    rw [hx] at hy
    cases hy
    exact hlt
  · obtain ⟨hi, rfl⟩ := List.getElem?_eq_some_iff.1 hx
    obtain ⟨hj, rfl⟩ := List.getElem?_eq_some_iff.1 hy
    exact cmpRow_trans _ _ _ (List.pairwise_iff_getElem.1 h i j hi hj (by omega)) hlt
theorem takeWhile_mem {α : Type} {p : α → Bool} {l : List α} {x : α} (h : x ∈ l.takeWhile p) : p x = true := by
  induction l with
  | nil => simp at h
  | cons a l ih =>
    rw [List.takeWhile_cons] at h
    split at h
    · rename_i ha
      rcases List.mem_cons.1 h with rfl | h
      · exact ha
      · exact ih h
    · cases h
theorem low_spec {rs : List (List ByteArray)} (h : Rising rs) (t : List ByteArray) : lowB rs t ≤ rs.length ∧ (∀ k x, k < lowB rs t → rs[k]? = some x → cmpRow x t < 0) ∧ ∀ k x, lowB rs t ≤ k → rs[k]? = some x → ¬ cmpRow x t < 0 := by
  have hl : lowB rs t ≤ rs.length := (List.takeWhile_prefix _).length_le
  refine ⟨hl, fun k x hk hx => ?_, fun k x hk hx hn => ?_⟩
  · have h1 : (rs.takeWhile fun r => decide (cmpRow r t < 0))[k]? = some x := by
      obtain ⟨l, e⟩ := List.takeWhile_prefix (fun r => decide (cmpRow r t < 0)) (l := rs)
      rw [← e, List.getElem?_append_left hk] at hx
      exact hx
    have h2 := takeWhile_mem (List.mem_of_getElem? h1)
    simpa using h2
  · have hk' := (List.getElem?_eq_some_iff.1 hx).1
    obtain ⟨y, hy⟩ : ∃ y, rs[lowB rs t]? = some y := ⟨_, List.getElem?_eq_getElem (by omega)⟩
    have h3 := h.cut t _ _ _ _ hk hy hx hn
    have h4 := List.head?_dropWhile_not (fun r => decide (cmpRow r t < 0)) rs
    have e : rs.drop (lowB rs t) = rs.dropWhile fun r => decide (cmpRow r t < 0) := by
      have h5 := List.takeWhile_append_dropWhile (p := fun r => decide (cmpRow r t < 0)) (l := rs)
      conv => lhs; arg 2; rw [← h5]
      exact List.drop_left
    rw [← e, List.head?_drop, hy] at h4
    simp at h4
    omega
theorem found_iff {rs : List (List ByteArray)} (h : Rising rs) (t : List ByteArray) : foundB rs t = true ↔ t ∈ rs := by
  obtain ⟨h1, h2, h3⟩ := low_spec h t
  unfold foundB
  constructor
  · intro hf
    cases hx : rs[lowB rs t]? with
    | none => rw [hx] at hf; cases hf
    | some r =>
      rw [hx] at hf
      have := (cmpRow_zero r t).1 (by simpa using hf)
      rw [← this]
      exact List.mem_of_getElem? hx
  · intro hm
    obtain ⟨k, hk⟩ := List.mem_iff_getElem?.1 hm
    have hkl : ¬ k < lowB rs t := fun hlt => by
      have h5 := h2 k t hlt hk
      rw [(cmpRow_zero t t).2 rfl] at h5
      omega
    obtain ⟨y, hy⟩ : ∃ y, rs[lowB rs t]? = some y := ⟨_, List.getElem?_eq_getElem (by have := (List.getElem?_eq_some_iff.1 hk).1; omega)⟩
    rw [hy]
    have h6 := h3 _ y (Nat.le_refl _) hy
    by_cases he : lowB rs t = k
    · rw [he, hk] at hy
      cases hy
      simp [(cmpRow_zero t t).2 rfl]
    · exfalso
      obtain ⟨hi, rfl⟩ := List.getElem?_eq_some_iff.1 hy
      obtain ⟨hj, e⟩ := List.getElem?_eq_some_iff.1 hk
      have h7 := List.pairwise_iff_getElem.1 h _ k hi hj (by omega)
      rw [e] at h7
      exact h6 h7
/-- The rows with one more. -/
def putRow (rs : List (List ByteArray)) (t : List ByteArray) : List (List ByteArray) := if foundB rs t = true then rs else rs.take (lowB rs t) ++ t :: rs.drop (lowB rs t)
theorem putRow_rising {rs : List (List ByteArray)} (h : Rising rs) (t : List ByteArray) : Rising (putRow rs t) := by
  unfold putRow
  split
  · exact h
  · rename_i hf
    obtain ⟨h1, h2, h3⟩ := low_spec h t
    have hd : ∀ y ∈ rs.drop (lowB rs t), cmpRow t y < 0 := fun y hy => by
      obtain ⟨k, hk⟩ := List.mem_iff_getElem?.1 hy
      rw [List.getElem?_drop] at hk
      have h4 := h3 _ y (Nat.le_add_right _ _) hk
      have h5 : cmpRow y t ≠ 0 := fun h0 => hf ((found_iff h t).2 (by rw [← (cmpRow_zero y t).1 h0]; exact List.mem_of_getElem? hk))
      have h6 := cmpRow_swap y t
      omega
    have ht : ∀ x ∈ rs.take (lowB rs t), cmpRow x t < 0 := fun x hx => by
      obtain ⟨k, hk⟩ := List.mem_iff_getElem?.1 hx
      have hkl := (List.getElem?_eq_some_iff.1 hk).1
      rw [List.length_take] at hkl
      rw [List.getElem?_take] at hk
      split at hk
      · exact h2 k x (by omega) hk
      · cases hk
    refine List.pairwise_append.2 ⟨h.sublist (List.take_sublist _ _), List.pairwise_cons.2 ⟨hd, h.sublist (List.drop_sublist _ _)⟩, fun x hx y hy => ?_⟩
    rcases List.mem_cons.1 hy with rfl | hy
    · exact ht x hx
    · exact cmpRow_trans _ _ _ (ht x hx) (hd y hy)
theorem putRow_mem {rs : List (List ByteArray)} (h : Rising rs) (t x : List ByteArray) : x ∈ putRow rs t ↔ x = t ∨ x ∈ rs := by
  unfold putRow
  split
  · rename_i hf
    have := (found_iff h t).1 hf
    constructor
    · exact .inr
    · rintro (rfl | hx)
      · exact this
      · exact hx
  · have e : rs = rs.take (lowB rs t) ++ rs.drop (lowB rs t) := (List.take_append_drop _ _).symm
    have : x ∈ rs ↔ x ∈ rs.take (lowB rs t) ∨ x ∈ rs.drop (lowB rs t) := by
      conv => lhs; rw [e]
      exact List.mem_append
    rw [List.mem_append, List.mem_cons, this]
    constructor
    · rintro (h1 | h1 | h1)
      · exact .inr (.inl h1)
      · exact .inl h1
      · exact .inr (.inr h1)
    · rintro (h1 | h1 | h1)
      · exact .inr (.inl h1)
      · exact .inl h1
      · exact .inr (.inr h1)
end Go.Proofs.YtpgbenijjodoeaaGreat
