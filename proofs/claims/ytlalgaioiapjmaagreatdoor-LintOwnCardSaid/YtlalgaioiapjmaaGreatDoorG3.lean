/- The walk of contain.Laid: it comes to the plain search, whatever the rules, and writes nothing that was there. -/
import Derived.Test.YtlalgaioiapjmaaGreatDoorG2
import Derived.StillTailTactics
namespace Go.Proofs.YtlalgaioiapjmaaGreatDoor.K
open Go.ChangeShapes Go.WideShapes Go.ChangeAt Go.RowKit
def intsV (l : List Nat) : List Value := l.map fun k => Value.int .i64 ((k : Nat) : Int)
def LaidPost (r s : Rule) (w : World) (e : Ending) (w' : World) : Prop :=
  Ext w w' ∧ match (laid r s).2 with
  | none => e = .returned (.tuple #[.slice none 0 0, .bool false, .int .i64 (laid r s).1])
  | some l => ∃ v, e = .returned (.tuple #[v, .bool true, .int .i64 0]) ∧ w'.ownsRow w.heap.size 3 1 v l.length (intsV l)
def ruleAt (w : World) (b o : Nat) (p : ByteArray) (ah : Option Addr) (nh ch : Nat) (ab : Option Addr) (nb cb : Nat) : Prop :=
  w.cell? ⟨b, o, none⟩ = some (.string p) ∧ w.cell? ⟨b, o + 1, none⟩ = some (.slice ah nh ch) ∧ w.cell? ⟨b, o + 2, none⟩ = some (.slice ab nb cb)
theorem ruleAt.keep {W w : World} (hb : Ext W w) {b o : Nat} {p : ByteArray} {ah : Option Addr} {nh ch : Nat} {ab : Option Addr} {nb cb : Nat} (h : ruleAt W b o p ah nh ch ab nb cb) : ruleAt w b o p ah nh ch ab nb cb :=
  ⟨YtlalgaioiapjmaaGreatDoor.keep hb h.1, YtlalgaioiapjmaaGreatDoor.keep hb h.2.1, YtlalgaioiapjmaaGreatDoor.keep hb h.2.2⟩
theorem ruleAt.lt {w : World} {b o : Nat} {p : ByteArray} {ah : Option Addr} {nh ch : Nat} {ab : Option Addr} {nb cb : Nat} (h : ruleAt w b o p ah nh ch ab nb cb) : b < w.heap.size := World.block_lt_of_cell? _ _ h.1
theorem ruleAt.gb {W w : World} {mb : Nat} (hg : W.grownBy w (some mb)) {b o : Nat} {p : ByteArray} {ah : Option Addr} {nh ch : Nat} {ab : Option Addr} {nb cb : Nat} (hne : b ≠ mb) (h : ruleAt W b o p ah nh ch ab nb cb) : ruleAt w b o p ah nh ch ab nb cb :=
  ⟨hg.cell h.1 (fun e => hne (Option.some.inj e)), hg.cell h.2.1 (fun e => hne (Option.some.inj e)), hg.cell h.2.2 (fun e => hne (Option.some.inj e))⟩
/-- The names that were laid, list by list. -/
def Frs (W wr : World) (vals : List Value) (frs : List (List ByteArray)) : Prop :=
  vals.length = frs.length ∧ ∀ (i : Nat) (v : Value) (fr : List ByteArray), vals[i]? = some v → frs[i]? = some fr → wr.ownsRow W.heap.size 9 1 v fr.length (fr.map Value.string) ∧ fr.length ≤ 5864062014634
structure SrSt (W : World) (mb : Nat) (m : TMap) (l : List Nat) (frs : List (List ByteArray)) (v13 v14 : Value) (wr : World) : Prop where
  beside : W.grownBy wr (some mb)
  map : SMap wr mb (fv m)
  own13 : wr.ownsRow W.heap.size 3 1 v13 l.length (intsV l)
  own14 : ∃ vals, wr.ownsRow W.heap.size 25 1 v14 frs.length vals ∧ Frs W wr vals frs
  len : l.length = frs.length
theorem own_ge {w : World} {base n size : Nat} {e : TypeId} {v : Value} {xs : List Value} (h : w.ownsRow base e size v n xs) {g : Nat} (hlt : g < base) : v.ownBlock = none ∨ v.ownBlock ≠ some g := by
  cases hv : v.ownBlock with
  | none => exact .inl rfl
  | some k => exact .inr (by intro e; cases e; have := (h.lt g hv).1; omega)
theorem Frs.kept {W w w' : World} {vals : List Value} {frs : List (List ByteArray)} {row : Option Nat} (h : Frs W w vals frs) (hg : w.grownBy w' row)
    (hne : ∀ v n xs, w.ownsRow W.heap.size 9 1 v n xs → v.ownBlock = none ∨ v.ownBlock ≠ row) : Frs W w' vals frs :=
  ⟨h.1, fun i v fr hv hf => ⟨(h.2 i v fr hv hf).1.kept hg (hne _ _ _ (h.2 i v fr hv hf).1), (h.2 i v fr hv hf).2⟩⟩
theorem SrSt.turn {W wr w' : World} {mb : Nat} {m m' : TMap} {l : List Nat} {frs : List (List ByteArray)} {v13 v14 : Value} (h : SrSt W mb m l frs v13 v14 wr) (hmb : mb < W.heap.size) (hg : wr.grownBy w' (some mb)) (hs : SMap w' mb (fv m')) :
    SrSt W mb m' l frs v13 v14 w' := by
  obtain ⟨vals, o14, hf⟩ := h.own14
  exact ⟨gb_trans h.beside hg, hs, h.own13.kept hg (own_ge h.own13 hmb), ⟨vals, o14.kept hg (own_ge o14 hmb), hf.kept hg fun v n xs hv => own_ge hv hmb⟩, h.len⟩
theorem SrSt.grow {W wr w' : World} {mb : Nat} {m : TMap} {l : List Nat} {frs : List (List ByteArray)} {v13 v14 : Value} (h : SrSt W mb m l frs v13 v14 wr) (hmb : mb < W.heap.size) (k : Ext wr w') :
    SrSt W mb m l frs v13 v14 w' := h.turn hmb (gb_of_ext k _) (h.map.ext k)
theorem own_cell {w : World} {base n : Nat} {e : TypeId} {a : Option Addr} {m cap : Nat} {xs : List Value} (h : w.ownsRow base e 1 (.slice a m cap) n xs) {i : Nat} {x : Value} (hx : xs[i]? = some x) : ∃ b off, a = some ⟨b, off, none⟩ ∧ w.cell? ⟨b, off + i, none⟩ = some x := by
  rcases h.2 with ⟨he, rfl⟩ | ⟨g, cap', cur, he, _, hg, hn, _⟩
  · have : xs = [] := List.eq_nil_of_length_eq_zero (by simpa using h.1)
    rw [this] at hx
    simp at hx
  · cases he
    have := h.cells (g := g) rfl i x hx
    rw [Addr.add_lit] at this
    exact ⟨g, 0, rfl, this⟩
theorem srch_step {rb sb : List Lit} {f : Nat} {m : TMap} {l : List Nat} {frs : List (List ByteArray)} {looks from_ : Nat} {L : Lit} (hx : sb[l.length]? = some L) :
    srch rb sb (f + 1) ⟨m, l, frs, looks, from_⟩ =
      match scan m L.atom (rb.drop from_) from_ looks with
      | .many => .many
      | .found k m2 fr lk => srch rb sb f ⟨m2, l ++ [k], frs ++ [fr], lk, 0⟩
      | .none lk =>
        match l.getLast? with
        | none => .no
        | some k => srch rb sb f ⟨withoutT m (frs.getLast?.getD []), l.dropLast, frs.dropLast, lk, k + 1⟩ := by
  show (match sb[l.length]? with
    | none => _
    | some l => _) = _
  rw [hx]
  rfl
theorem srch_done {rb sb : List Lit} {f : Nat} {m : TMap} {l : List Nat} {frs : List (List ByteArray)} {looks from_ : Nat} (hx : sb[l.length]? = none) :
    srch rb sb (f + 1) ⟨m, l, frs, looks, from_⟩ = .yes l := by
  show (match sb[l.length]? with
    | none => _
    | some l => _) = _
  rw [hx]
theorem scan_step {m : TMap} {a : Atom} {rb : List Lit} {k lk : Nat} {l : Lit} (hx : rb.drop k = l :: rb.drop (k + 1)) (h : ¬ 65536 < lk + 1) :
    scan m a (rb.drop k) k lk = match lay m a l.atom k with
      | some (m', fr) => .found k m' fr (lk + 1)
      | none => scan m a (rb.drop (k + 1)) (k + 1) (lk + 1) := by
  rw [hx, scan, if_neg h]
  rfl
theorem scan_many {m : TMap} {a : Atom} {rb : List Lit} {k lk : Nat} {l : Lit} (hx : rb.drop k = l :: rb.drop (k + 1)) (h : 65536 < lk + 1) :
    scan m a (rb.drop k) k lk = .many := by
  rw [hx, scan, if_pos h]
theorem Frs.alloc {W w : World} {vals : List Value} {frs : List (List ByteArray)} (h : Frs W w vals frs) (o : Obj) : Frs W (w.alloc o) vals frs :=
  h.kept (World.grownBy_alloc w o none) fun v _ _ _ => by cases v.ownBlock <;> simp
theorem SrSt.mid {W w6 w7 : World} {mb : Nat} {m : TMap} {l : List Nat} {frs : List (List ByteArray)} {v13 v14 : Value} {vals : List Value} {o1 : Obj} (h : SrSt W mb m l frs v13 v14 w6)
    (o14 : w6.ownsRow W.heap.size 25 1 v14 frs.length vals) (g7 : (w6.alloc o1).grownBy w7 v13.ownBlock) : w7.ownsRow W.heap.size 25 1 v14 frs.length vals :=
  (o14.alloc o1).kept g7 (own_apart (o14.alloc o1) (h.own13.alloc o1) (by decide))
theorem SrSt.push {W w6 w7 w8 : World} {mb k : Nat} {m : TMap} {l : List Nat} {frs : List (List ByteArray)} {fr : List ByteArray} {v13 v14 v13' v14' v18 : Value} {vals : List Value} {o1 o2 : Obj} (h : SrSt W mb m l frs v13 v14 w6) (hmb : mb < W.heap.size)
    (o14 : w6.ownsRow W.heap.size 25 1 v14 frs.length vals) (hf : Frs W w6 vals frs)
    (ho : w6.ownsRow W.heap.size 9 1 v18 fr.length (fr.map Value.string)) (hfr : fr.length ≤ 5864062014634)
    (g7 : (w6.alloc o1).grownBy w7 v13.ownBlock) (o13' : w7.ownsRow W.heap.size 3 1 v13' (l.length + 1) (intsV l ++ [.int .i64 (k : Int)]))
    (g8 : (w7.alloc o2).grownBy w8 v14.ownBlock) (o14' : w8.ownsRow W.heap.size 25 1 v14' (frs.length + 1) (vals ++ [v18])) : SrSt W mb m (l ++ [k]) (frs ++ [fr]) v13' v14' w8 := by
  have om := h.mid o14 g7
  have ge13 : ∀ g, v13.ownBlock = some g → W.heap.size ≤ g := fun g hg => (h.own13.lt g hg).1
  have ge14 : ∀ g, v14.ownBlock = some g → W.heap.size ≤ g := fun g hg => (o14.lt g hg).1
  have n13 : some mb ≠ v13.ownBlock := fun e => by have := ge13 mb e.symm; omega
  have n14 : some mb ≠ v14.ownBlock := fun e => by have := ge14 mb e.symm; omega
  refine ⟨?_, ?_, ?_, ⟨vals ++ [v18], ?_, ?_⟩, ?_⟩
  · exact gb_own (gb_trans (gb_own (gb_trans h.beside (World.grownBy_alloc _ _ _)) g7 ge13) (World.grownBy_alloc _ _ _)) g8 ge14
  · exact smap_gb ((smap_gb (h.map.ext (ext_alloc (Below.refl _ _) _)) g7 n13).ext (ext_alloc (Below.refl _ _) _)) g8 n14
  · have := (o13'.alloc o2).kept g8 (own_apart (o13'.alloc o2) (om.alloc o2) (by decide))
    simpa [intsV] using this
  · simpa using o14'
  · have key : ∀ (v : Value) (n : Nat) (xs : List Value), w6.ownsRow W.heap.size 9 1 v n xs → w8.ownsRow W.heap.size 9 1 v n xs := by
      intro v n xs hv
      have a1 := (hv.alloc o1).kept g7 (own_apart (hv.alloc o1) (h.own13.alloc o1) (by decide))
      exact (a1.alloc o2).kept g8 (own_apart (a1.alloc o2) (om.alloc o2) (by decide))
    refine ⟨by simp [hf.1], fun i v x hv hx => ?_⟩
    by_cases hi : i < frs.length
    · rw [List.getElem?_append_left (by rw [hf.1]; exact hi)] at hv
      rw [List.getElem?_append_left hi] at hx
      have := hf.2 i v x hv hx
      exact ⟨key _ _ _ this.1, this.2⟩
    · rw [List.getElem?_append_right (by rw [hf.1]; omega), hf.1] at hv
      rw [List.getElem?_append_right (by omega)] at hx
      have h0 : i - frs.length = 0 := by
        have := (List.getElem?_eq_some_iff.1 hx).1
        simp at this
        omega
      rw [h0] at hv hx
      simp at hv hx
      subst hv hx
      exact ⟨key _ _ _ ho, hfr⟩
  · simp [h.len]
theorem layGo_len {lit : Int} {ts os : List Term} {i : Nat} {m m' : TMap} {fr fr' : List ByteArray} (h : layGo lit ts os i m fr = some (m', fr')) : fr'.length ≤ fr.length + ts.length := by
  induction ts generalizing os i m fr with
  | nil => simp [layGo] at h; obtain ⟨_, rfl⟩ := h; simp
  | cons t ts ih =>
    cases os with
    | nil => simp [layGo] at h; obtain ⟨_, rfl⟩ := h; simp
    | cons o os =>
      rw [layGo] at h
      split at h
      · split at h
        · have := ih h; simp; omega
        · cases h
      · split at h
        · split at h
          · have := ih h; simp at this ⊢; omega
          · split at h
            · have := ih h; simp; omega
            · cases h
        · have := ih h; simp; omega
theorem lay_len {m m' : TMap} {a o : Atom} {lit : Int} {fr : List ByteArray} (h : lay m a o lit = some (m', fr)) : fr.length ≤ a.terms.length := by
  unfold lay at h
  split at h
  · have := layGo_len h; simpa using this
  · cases h
/-- What lay answers, told with one shape of its answer. -/
def LayRes (m : TMap) (a o : Atom) (lit : Int) (mb : Nat) (w : World) (v : Value) (b : Bool) (w' : World) : Prop :=
  match lay m a o lit with
  | none => v = .slice none 0 0 ∧ b = false ∧ SMap w' mb (fv m)
  | some (m', fr) => b = true ∧ SMap w' mb (fv m') ∧ w'.ownsRow w.heap.size 9 1 v fr.length (fr.map Value.string)
theorem c_lay2 (m0 : TMap) (a o : Atom) (aa ao : Option Addr) (na ca no co : Nat) (lit : Int) (mb : Nat) (w : World) (hm : SMap w mb (fv m0)) (ha : TermsAt w aa na a.terms) (ho : TermsAt w ao no o.terms) :
    Calls Tryz.prog 139 #[.map (some mb), .agg #[.string a.pred, .slice aa na ca], .agg #[.string o.pred, .slice ao no co], .int .i64 lit] w fun e w' => ∃ v b, e = .returned (.tuple #[v, .bool b]) ∧ w.grownBy w' (some mb) ∧ LayRes m0 a o lit mb w v b w' := by
  refine (c_lay m0 a o aa ao na ca no co lit mb w hm ha ho).mono fun e w' h => ?_
  obtain ⟨hg, h⟩ := h
  unfold LayRes
  cases hl : lay m0 a o lit with
  | none =>
    rw [hl] at h
    obtain ⟨rfl, hs⟩ := h
    exact ⟨_, _, rfl, hg, rfl, rfl, hs⟩
  | some mf =>
    obtain ⟨m', fr⟩ := mf
    rw [hl] at h
    obtain ⟨v, rfl, hs, ho⟩ := h
    exact ⟨_, _, rfl, hg, rfl, hs, ho⟩
def sliceLen : Value → Nat
  | .slice _ n _ => n
  | _ => 0
theorem info_int : (Tryz.prog.info? 3).map (fun i => (i.zero, i.size, i.bytes)) = some (some (.int .i64 0), 1, 8) := by kernel_rfl
theorem info_strs : (Tryz.prog.info? 25).map (fun i => (i.zero, i.size, i.bytes)) = some (some (.slice none 0 0), 1, 24) := by kernel_rfl
theorem one_cell {v : Value} (h : v.oneCell' = true) : ∀ u ∈ [v], u.oneCell' = true := by simpa using h
theorem meas_up {a b M x : Nat} (h : a + 1 ≤ b) : a * M + M + x ≤ b * M + x := by
  have := Nat.mul_le_mul_right M h
  rw [Nat.succ_mul] at this
  omega
theorem meas_le {a b M : Nat} (h : a ≤ b) : a * M ≤ b * M := Nat.mul_le_mul_right M h
def LaidInv (rb sb : List Lit) (F : Nat) (st0 : SSt) (W : World) (mb : Nat) (v13 v14 i15 i16 : Value) (wr : World) : Prop :=
  ∃ (m : TMap) (l : List Nat) (frs : List (List ByteArray)) (looks from_ f : Nat), i15 = .int .i64 looks ∧ i16 = .int .i64 from_ ∧ looks ≤ 65536 ∧ from_ ≤ rb.length ∧ l.length ≤ sb.length ∧ (∀ k ∈ l, k < rb.length) ∧
    (65537 - looks) * (sb.length + 2) + l.length < f ∧ SrSt W mb m l frs v13 v14 wr ∧ srch rb sb F st0 = srch rb sb f ⟨m, l, frs, looks, from_⟩
def ScanInv (rb : List Lit) (a : Atom) (m : TMap) (l : List Nat) (frs : List (List ByteArray)) (looks from_ : Nat) (W : World) (mb : Nat) (x13 x14 x16 : Value) (v13 v14 i15 i16 i17 : Value) (wr : World) : Prop :=
  ∃ (k lk : Nat), v13 = x13 ∧ v14 = x14 ∧ i16 = x16 ∧ i15 = .int .i64 lk ∧ i17 = .int .i64 k ∧ k ≤ rb.length ∧ looks ≤ lk ∧ lk ≤ 65536 ∧ SrSt W mb m l frs x13 x14 wr ∧
    scan m a (rb.drop from_) from_ looks = scan m a (rb.drop k) k lk
set_option maxRecDepth 100000 in
set_option maxHeartbeats 1000000 in
theorem c_Laid (r s : Rule) (ah : Option Addr) (nh ch : Nat) (ab : Option Addr) (nb cb : Nat) (ah' : Option Addr) (nh' ch' : Nat) (ab' : Option Addr) (nb' cb' : Nat) (w : World) (hr : RuleV w r ah nh ch ab nb cb) (hs : RuleV w s ah' nh' ch' ab' nb' cb') :
    Calls Tryz.prog 107 #[.agg #[.string r.head.pred, .slice ah nh ch, .slice ab nb cb], .agg #[.string s.head.pred, .slice ah' nh' ch', .slice ab' nb' cb']] w (LaidPost r s w) := by
  have HR := Lib.hid hr
  have HS := Lib.hid hs
  clear hr hs
  have hmm := @run_makeMap Tryz.prog
  obtain ⟨b1, e1⟩ : ∃ b, (mayRule r != 0) = b := ⟨_, rfl⟩
  obtain ⟨b2, e2⟩ : ∃ b, (mayRule s != 0) = b := ⟨_, rfl⟩
  obtain ⟨p1, e3⟩ : ∃ b, plain r = b := ⟨_, rfl⟩
  obtain ⟨p2, e4⟩ : ∃ b, plain s = b := ⟨_, rfl⟩
  have fin : Hid (laid r s = if b1 = true then (mayRule r, none) else if b2 = true then (mayRule s, none) else if (p1 && p2) = false then (240, none)
      else match lay (fun _ => none) s.head r.head (-1) with
        | none => (0, none)
        | some (m, _) =>
          match srch r.body s.body (65537 * (s.body.length + 2) + 1) ⟨m, [], [], 0, 0⟩ with
          | .many => (241, none)
          | .no => (0, none)
          | .yes l => (0, some l)) := by
    show _ = _
    subst e1 e2 e3 e4
    unfold laid
    simp only [bne_iff_ne]
    rfl
  go_enter Tryz.func107, Tryz.ntmps107
  go_wp2
  go_step3
  go_wp2
  refine wp_gen (fun W hW => ?_)
  have hb0 : Ext w W := by rw [hW]; go_grown
  have R2 : ruleAt W w.heap.size 0 r.head.pred ah nh ch ab nb cb := by rw [hW]; exact ⟨by go_simp, by go_simp, by go_simp⟩
  have R3 : ruleAt W (w.heap.size + 1) 0 s.head.pred ah' nh' ch' ab' nb' cb' := by rw [hW]; exact ⟨by go_simp, by go_simp, by go_simp⟩
  have R4 : ruleAt W (w.heap.size + 1 + 1) 0 r.head.pred ah nh ch ab nb cb := by rw [hW]; exact ⟨by go_simp, by go_simp, by go_simp⟩
  have R5 : ruleAt W (w.heap.size + 1 + 1) 3 s.head.pred ah' nh' ch' ab' nb' cb' := by rw [hW]; exact ⟨by go_simp, by go_simp, by go_simp⟩
  have hz : w.heap.size + 1 + 1 < W.heap.size := R4.lt
  clear hW
  have H2 := Lib.hid R2
  have H3 := Lib.hid R3
  have H5 := Lib.hid R5
  obtain ⟨q0, q1, q2⟩ := R4
  clear R2 R3 R5
  refine wp_loop_rounds 3 ?_
  rw [rounds_succ]
  cases b1 with
  | true =>
    go_wp2_with (go_at_call 74; (with_reducible refine (c_MayRule r _ _ _ _ _ _ _ (HR.out.keep (ext_alloc hb0 _))).mono ?_); rintro e w1 ⟨rfl, hb1⟩)
    rw [Exit.noGoto_ret]
    go_ret3
    refine ⟨ext_trans hb0 (ext_after hb1 (ext_alloc (Below.refl _ _) _)), ?_⟩
    rw [fin.out]
    rfl
  | false =>
    go_wp2_with (go_at_call 74; (with_reducible refine (c_MayRule r _ _ _ _ _ _ _ (HR.out.keep (ext_alloc hb0 _))).mono ?_); rintro e w1 ⟨rfl, hb1⟩)
    have hw1 : Ext W w1 := ext_after hb1 (ext_alloc (Below.refl _ _) _)
    have hb2 := ext_trans hb0 hw1
    have hz1 : w.heap.size + 1 + 1 < w1.heap.size := Nat.lt_of_lt_of_le hz hw1.size
    obtain ⟨s0, s1, s2⟩ := H5.out.keep hw1
    clear q0 q1 q2 hb1
    rw [rounds_succ]
    cases b2 with
    | true =>
      go_wp2_with (go_at_call 74; (with_reducible refine (c_MayRule s _ _ _ _ _ _ _ (HS.out.keep (ext_alloc hb2 _))).mono ?_); rintro e w2 ⟨rfl, hb3⟩)
      rw [Exit.noGoto_ret]
      go_ret3
      refine ⟨ext_trans hb2 (ext_after hb3 (ext_alloc (Below.refl _ _) _)), ?_⟩
      rw [fin.out]
      rfl
    | false =>
      go_wp2_with (go_at_call 74; (with_reducible refine (c_MayRule s _ _ _ _ _ _ _ (HS.out.keep (ext_alloc hb2 _))).mono ?_); rintro e w2 ⟨rfl, hb3⟩)
      have hw2 : Ext W w2 := ext_trans hw1 (ext_after hb3 (ext_alloc (Below.refl _ _) _))
      have hb4 := ext_trans hb0 hw2
      have hz2 : w.heap.size + 1 + 1 < w2.heap.size := Nat.lt_of_lt_of_le hz hw2.size
      obtain ⟨t0, t1, t2⟩ := H2.out.keep hw2
      obtain ⟨u0, u1, u2⟩ := H3.out.keep hw2
      clear s0 s1 s2 hb3
      rw [rounds_succ]
      cases p1 with
      | false =>
        go_wp2_with (go_at_call 43; (with_reducible refine (c_Plain r _ _ _ _ _ _ _ (HR.out.keep hb4)).mono ?_); rintro e w3 ⟨rfl, hb5⟩)
        rw [Exit.noGoto_ret]
        go_ret3
        refine ⟨ext_trans hb4 hb5, ?_⟩
        rw [fin.out]
        rfl
      | true =>
        go_wp2_with fail
        refine (c_Plain r _ _ _ _ _ _ _ (HR.out.keep hb4)).mono ?_
        rintro e w3 ⟨rfl, hb5⟩
        have hb6 := ext_trans hb4 hb5
        obtain ⟨v0, v1, v2⟩ := H3.out.keep (ext_trans hw2 hb5)
        rw [e3]
        clear t0 t1 t2 u0 u1 u2
        cases p2 with
        | false =>
          go_wp2_with fail
          refine (c_Plain s _ _ _ _ _ _ _ (HS.out.keep hb6)).mono ?_
          rintro e w4 ⟨rfl, hb7⟩
          rw [e4]
          go_wp2
          rw [Exit.noGoto_ret]
          go_ret3
          refine ⟨ext_trans hb6 hb7, ?_⟩
          rw [fin.out]
          rfl
        | true =>
          go_wp2_with fail
          refine (c_Plain s _ _ _ _ _ _ _ (HS.out.keep hb6)).mono ?_
          rintro e w4 ⟨rfl, hb7⟩
          have hb8 := ext_trans hb6 hb7
          have hw4 := ext_trans (ext_trans hw2 hb5) hb7
          obtain ⟨r0, r1, r2⟩ := H2.out.keep hw4
          obtain ⟨s0, s1, s2⟩ := H3.out.keep hw4
          have hz4 : w.heap.size + 1 + 1 < w4.heap.size := Nat.lt_of_lt_of_le hz hw4.size
          have hw4s : w.heap.size ≤ w4.heap.size := hb8.size
          have hz4a : w.heap.size < w4.heap.size := by omega
          have hz4b : w.heap.size + 1 < w4.heap.size := by omega
          rw [e4]
          clear v0 v1 v2
          go_wp2_with fail
          have hz5 : Ext w (w4.alloc (.map #[] 0)) := ext_alloc hb8 _
          refine (c_lay (fun _ => none) s.head r.head _ _ _ _ _ _ (-1) w4.heap.size _ (SMap.made w4) (HS.out.terms.keep hz5) (HR.out.terms.keep hz5)).mono ?_
          rintro e w5 ⟨hg5, hlay⟩
          have hmap : Ext w w5 := hz5.trans (Below.grown (Below.refl w.heap.size _) hg5 hz5.size (fun k hk => by cases hk; exact hw4s))
          cases hl : lay (fun _ => none) s.head r.head (-1) with
          | none =>
            rw [hl] at hlay
            obtain ⟨rfl, _⟩ := hlay
            go_wp2
            rw [Exit.noGoto_ret]
            go_ret3
            refine ⟨hmap, ?_⟩
            rw [fin.out, hl]
            rfl
          | some mf =>
            obtain ⟨m, fr⟩ := mf
            rw [hl] at hlay
            obtain ⟨vh, rfl, hsm, _⟩ := hlay
            have fin2 : Hid (laid r s = match srch r.body s.body (65537 * (s.body.length + 2) + 1) ⟨m, [], [], 0, 0⟩ with
                | .many => (241, none)
                | .no => (0, none)
                | .yes l => (0, some l)) := by
              have h := fin.out
              rw [hl] at h
              exact h
            have mbl : w4.heap.size < w5.heap.size := hsm.lt
            have g2 := Lib.hid (((H2.out.keep hw4).keep (ext_alloc (Below.refl _ _) (.map #[] 0))).gb hg5 (by omega))
            have g3 := Lib.hid (((H3.out.keep hw4).keep (ext_alloc (Below.refl _ _) (.map #[] 0))).gb hg5 (by omega))
            obtain ⟨mb, hmb⟩ : ∃ mb, mb = w4.heap.size := ⟨_, rfl⟩
            rw [← hmb] at hsm mbl ⊢
            have hne : w.heap.size + 1 < mb := by omega
            have RL := Lib.hid HR.out.body.2.1
            have SL := Lib.hid HS.out.body.2.1
            have hnb := HR.out.body.1
            have hnb' := HS.out.body.1
            have HSM := Lib.hid hsm
            clear fin hl e1 e2 e3 e4 hmm hmb hsm r0 r1 r2 s0 s1 s2 H2 H3 H5 hz hz1 hz2 hz4 hz4a hz4b hg5 hw4s hz5 hb8 hb7 hb6 hb5 hb4 hw4 hw2 hw1 hb2 hb0
            go_wp2
            go_step3
            go_wp2
            go_loopw [13, 14, 15, 16] (fun v13 v14 i15 i16 wr => LaidInv r.body s.body (65537 * (s.body.length + 2) + 1) ⟨m, [], [], 0, 0⟩ w5 mb v13 v14 i15 i16 wr) (fun v13 _ i15 _ _ => (65537 - (intOf i15).toNat) * (s.body.length + 2) + sliceLen v13)
            case atStart => exact ⟨m, [], [], 0, 0, _, rfl, rfl, by omega, by omega, by simp, by simp, by simp, ⟨gb_refl _ _, HSM.out, World.ownsRow_nil _ _ _ _, ⟨[], World.ownsRow_nil _ _ _ _, rfl, by simp⟩, rfl⟩, rfl⟩
            case round =>
              obtain ⟨m', l, frs, looks, from_, f, rfl, rfl, hlk, hfrom, hll, hlm, hf, hst, hq⟩ := hrel
              have HQ := Lib.hid hq
              have HT := Lib.hid hst
              have HLM := Lib.hid hlm
              have HF := Lib.hid hf
              have hext : Ext w wr := hmap.trans (Below.grown (Below.refl w.heap.size _) hst.beside hmap.size (fun k hk => by cases hk; omega))
              clear hq hst hlm hf
              have hlen := HT.out.own13.1
              obtain ⟨a13, c13, rfl, hc13⟩ := own_form HT.out.own13
              obtain ⟨q0, q1, q2⟩ := g2.out.gb HT.out.beside (by omega)
              obtain ⟨s0, s1, s2⟩ := g3.out.gb HT.out.beside (by omega)
              have hrl := RL.out
              have hsl := SL.out
              by_cases hlt : l.length < nb'
              · obtain ⟨L, bt, off, hx, rfl, aL, nL, capL, k0, k1, k2, _, _, _, _, _, htL, hcapL, hpL, _, _⟩ := HS.out.body.2.at hlt
                obtain ⟨f, rfl⟩ : ∃ g, f = g + 1 := ⟨f - 1, by have := HF.out; omega⟩
                have HQ2 : Hid (srch r.body s.body (65537 * (s.body.length + 2) + 1) ⟨m, [], [], 0, 0⟩ =
                    match scan m' L.atom (r.body.drop from_) from_ looks with
                    | .many => .many
                    | .found k m2 fr lk => srch r.body s.body f ⟨m2, l ++ [k], frs ++ [fr], lk, 0⟩
                    | .none lk =>
                      match l.getLast? with
                      | none => .no
                      | some k => srch r.body s.body f ⟨withoutT m' (frs.getLast?.getD []), l.dropLast, frs.dropLast, lk, k + 1⟩) := by
                  have h := HQ.out
                  rw [srch_step hx] at h
                  exact h
                have HLT := Lib.hid htL
                have HK1 := Lib.hid k1
                have HK2 := Lib.hid k2
                have hll2 : l.length < s.body.length := by omega
                clear hx htL k0 k1 k2 HQ
                go_wp2
                go_loopw [13, 14, 15, 16, 17] (fun v13 v14 i15 i16 i17 wj => ScanInv r.body L.atom m' l frs looks from_ w5 mb (.slice a13 l.length c13) u14 (.int .i64 from_) v13 v14 i15 i16 i17 wj) (fun _ _ _ _ i17 _ => nb - (intOf i17).toNat)
                case atStart => exact ⟨from_, looks, rfl, rfl, rfl, rfl, rfl, by omega, by omega, by omega, HT.out, rfl⟩
                case round =>
                  obtain ⟨k, lk, rfl, rfl, rfl, rfl, rfl, hk, hlk1, hlk2, hst2, hsc⟩ := hrel
                  have HT2 := Lib.hid hst2
                  have HSC := Lib.hid hsc
                  have hext2 : Ext w wr := hmap.trans (Below.grown (Below.refl w.heap.size _) hst2.beside hmap.size (fun k hk => by cases hk; omega))
                  clear hst2 hsc q0 q1 q2 s0 s1 s2
                  obtain ⟨q0, q1, q2⟩ := g2.out.gb HT2.out.beside (by omega)
                  obtain ⟨s0, s1, s2⟩ := g3.out.gb HT2.out.beside (by omega)
                  by_cases hkb : k < nb
                  · by_cases hmany : 65536 < lk + 1
                    · have hd : decide ((65536 : Int) < (lk : Int) + 1) = true := decide_eq_true (by omega)
                      have HM := Lib.hid hmany
                      clear hmany
                      have hbl : k < r.body.length := by omega
                      have HBL := Lib.hid hbl
                      clear hbl
                      go_wp2
                      rw [Exit.noGoto_ret]
                      go_ret3
                      refine ⟨hext2, ?_⟩
                      have h2 := fin2.out
                      rw [HQ2.out, HSC.out, scan_many (List.drop_eq_getElem_cons HBL.out) HM.out] at h2
                      rw [h2]
                      rfl
                    · obtain ⟨K, bk, ok, hxk, rfl, aK, nK, capK, j0, j1, j2, _, _, _, _, _, htK, hcapK, hpK, _, _⟩ := HR.out.body.2.at hkb
                      have HSTEP := Lib.hid (scan_step (m := m') (a := L.atom) (drop_at hxk) hmany)
                      have HKT := Lib.hid htK
                      have y1 := keep hext2 HK1.out
                      have y2 := keep hext2 HK2.out
                      have x1 := keep hext2 j1
                      have x2 := keep hext2 j2
                      have hd : decide ((65536 : Int) < (lk : Int) + 1) = false := decide_eq_false (by omega)
                      have hlk3 : lk ≤ 65535 := by omega
                      clear hxk htK j0 j1 j2 hmany
                      have hbt : bt < w.heap.size := World.block_lt_of_cell? _ _ HK1.out
                      have hbk : bk < w.heap.size := HR.out.body.2.at hkb |>.elim fun _ h => by
                        obtain ⟨b, off, _, e, hl⟩ := h
                        cases e
                        obtain ⟨_, _, _, h1, _⟩ := hl
                        exact World.block_lt_of_cell? _ _ h1
                      have n1 : some w.heap.size ≠ some mb := by intro e; cases e; omega
                      have n2 : some (w.heap.size + 1) ≠ some mb := by intro e; cases e; omega
                      have n3 : some bt ≠ some mb := by intro e; cases e; omega
                      have n4 : some bk ≠ some mb := by intro e; cases e; omega
                      go_upto_region 24 with (fail)
                      go_cut [18, 19] (fun v18 v19 wc => wr.grownBy wc (some mb) ∧ ∃ b, v19 = .bool b ∧ LayRes m' L.atom K.atom (k : Int) mb wr v18 b wc)
                      case first =>
                        go_region_held3 (fun w' => w'.cell? ⟨w.heap.size + 1, 2, none⟩ = some (.slice (some ⟨bt, off, none⟩) nb' cb') ∧ w'.cell? ⟨w.heap.size, 2, none⟩ = some (.slice (some ⟨bk, ok, none⟩) nb cb) ∧ w'.cell? ⟨bt, off + l.length * 8 + 1, none⟩ = some (.string L.atom.pred) ∧ w'.cell? ⟨bt, off + l.length * 8 + 2, none⟩ = some (.slice aL nL capL) ∧ w'.cell? ⟨bk, ok + k * 8 + 1, none⟩ = some (.string K.atom.pred) ∧ w'.cell? ⟨bk, ok + k * 8 + 2, none⟩ = some (.slice aK nK capK))
                          (first | go_keep | exact ⟨hg6'.cell s2 n2, hg6'.cell q2 n1, hg6'.cell y1 n3, hg6'.cell y2 n3, hg6'.cell x1 n4, hg6'.cell x2 n4⟩)
                          (first | (go_at_call 139; (with_reducible refine (c_lay2 m' L.atom K.atom _ _ _ _ _ _ (k : Int) mb wr.drew (HT2.out.map.ext (ext_drew (Below.refl _ _))) (HLT.out.keep (ext_drew hext2)) (HKT.out.keep (ext_drew hext2))).mono ?_); rintro e w6 ⟨v18, b18, rfl, hg6, hres⟩; have hg6' : wr.grownBy w6 (some mb) := ⟨hg6.os, hg6.tape, hg6.output, hg6.size, hg6.block⟩))
                        all_goals
                          go_wp2
                          go_meet
                          exact ⟨hg6', b18, rfl, hres⟩
                      case rest =>
                      obtain ⟨hg6', b18, rfl, hlay⟩ := hcut
                      unfold LayRes at hlay
                      cases hl : lay m' L.atom K.atom (k : Int) with
                      | none =>
                        rw [hl] at hlay
                        obtain ⟨rfl, rfl, hs6⟩ := hlay
                        have HL := Lib.hid hl
                        have H6 := Lib.hid (HT2.out.turn mbl hg6' hs6)
                        clear hl hg6' hs6 y1 y2 x1 x2 q0 q1 q2 s0 s1 s2
                        go_wp2
                        go_roundw
                        case rel => exact ⟨k + 1, lk + 1, rfl, rfl, rfl, by go_num, by go_num, by omega, by omega, by omega, H6.out, by rw [HSC.out, HSTEP.out, HL.out]⟩
                        case measure => simp [intOf]; omega
                      | some mf =>
                        obtain ⟨m2, fr⟩ := mf
                        rw [hl] at hlay
                        obtain ⟨rfl, hs6, ho6⟩ := hlay
                        obtain ⟨a18, c18, rfl, hc18⟩ := own_form ho6
                        have HL := Lib.hid hl
                        have h6 := HT2.out.turn mbl hg6' hs6
                        have ho6' := own_base ho6 (base' := w5.heap.size) (HT2.out.beside.size)
                        have hfr : fr.length ≤ 5864062014634 := by
                          have := lay_len hl
                          have h2 := HLT.out.2.1
                          have h3 := HLT.out.1
                          omega
                        have HL6 : Hid (l.length = frs.length) := h6.len
                        obtain ⟨vals, o14, hf14⟩ := h6.own14
                        obtain ⟨i0, hi, hz0, hz1', hz2'⟩ := info_parts info_int
                        obtain ⟨i1, hi1, hy0, hy1', hy2'⟩ := info_parts info_strs
                        have h13 := h6.own13
                        have H6 := Lib.hid h6
                        have HO14 := Lib.hid o14
                        have HF14 := Lib.hid hf14
                        have HO6 := Lib.hid ho6'
                        have hsz6 : w5.heap.size ≤ wc.heap.size := h6.beside.size
                        clear hl hg6' hs6 y1 y2 x1 x2 q0 q1 q2 s0 s1 s2 h6 ho6 ho6' hf14
                        have hc3 : l.length + 1 ≤ maxLen := by unfold maxLen; omega
                        have hc4 : (l.length + 1) * 8 ≤ 140737488355328 := by omega
                        have hd3 : frs.length + 1 ≤ maxLen := by unfold maxLen; rw [← HL6.out]; omega
                        have hd4 : (frs.length + 1) * 24 ≤ 140737488355328 := by rw [← HL6.out]; omega
                        have hc5 := Lib.hid hsz6
                        clear o14
                        go_wp2_with (first | (at_builtin; refine wpList_append_own _ rfl _ _ 52 rfl w5.heap.size 3 i0 (.int .i64 0) 1 8 Tryz.underlying52 hi hz0 hz1' hz2' rfl (by decide) _ _ _ rfl (h13.alloc _) ⟨wc.heap.size, 0, none⟩ 1 1 [.int .i64 (k : Int)] rfl rfl (cell_one_new _ _ _) (one_cell rfl) hc3 hc4 (size_alloc_le hc5.out) ?_; intro v13' w7 o13' g7 _) | (at_builtin; refine wpList_append_own _ rfl _ _ 201 rfl w5.heap.size 25 i1 (.slice none 0 0) 1 24 Tryz.underlying201 hi1 hy0 hy1' hy2' rfl (by decide) _ _ _ rfl ((H6.out.mid HO14.out g7).alloc _) ⟨w7.heap.size, 0, none⟩ 1 1 [.slice a18 fr.length c18] rfl rfl (cell_one_new _ _ _) (one_cell rfl) hd3 hd4 (size_alloc_le (Nat.le_trans (size_alloc_le hc5.out) g7.size)) ?_; intro v14' w8 o14' g8 _))
                        have hpush := Lib.hid (H6.out.push mbl HO14.out HF14.out HO6.out hfr g7 o13' g8 o14')
                        obtain ⟨a13', c13', rfl, _⟩ := own_form o13'
                        have hfm := HF.out
                        have hmu := meas_up (a := 65537 - (lk + 1)) (b := 65537 - looks) (M := s.body.length + 2) (x := l.length) (by omega)
                        go_roundw
                        case rel => exact ⟨m2, l ++ [k], frs ++ [fr], lk + 1, 0, f, by go_num, rfl, by omega, by omega, by simp; omega, fun x hx => by
                          rcases List.mem_append.1 hx with h | h
                          · exact HLM.out x h
                          · simp at h; omega, by rw [List.length_append]; simp only [List.length_cons, List.length_nil]; omega, hpush.out, by rw [HQ2.out, HSC.out, HSTEP.out, HL.out]⟩
                        case measure =>
                          have e : ((lk : Int) + 1).toNat = lk + 1 := by omega
                          simp only [intOf, sliceLen, e, Int.toNat_natCast]
                          omega
                  · have hdone : scan m' L.atom (r.body.drop from_) from_ looks = .none lk := by
                      rw [HSC.out, List.drop_of_length_le (by omega)]
                      rfl
                    have HD := Lib.hid hdone
                    clear hdone
                    cases hl0 : l.length with
                    | zero =>
                      have hnil : l = [] := List.eq_nil_of_length_eq_zero hl0
                      have HN := Lib.hid hnil
                      clear hnil
                      go_wp2
                      rw [Exit.noGoto_ret]
                      go_ret3
                      refine ⟨hext2, ?_⟩
                      have h2 := fin2.out
                      rw [HQ2.out, HD.out, HN.out] at h2
                      rw [h2]
                      rfl
                    | succ n0 =>
                      have hfl : frs.length = n0 + 1 := by rw [← HT2.out.len]; exact hl0
                      obtain ⟨vals, o14, hf14⟩ := HT2.out.own14
                      obtain ⟨a14, c14, rfl, hc14⟩ := own_form o14
                      obtain ⟨vl, hvl⟩ : ∃ v, vals[n0]? = some v := ⟨_, List.getElem?_eq_getElem (by rw [hf14.1]; omega)⟩
                      obtain ⟨fl, hfl2⟩ : ∃ v, frs[n0]? = some v := ⟨_, List.getElem?_eq_getElem (by omega)⟩
                      obtain ⟨kl, hkl⟩ : ∃ v, l[n0]? = some v := ⟨_, List.getElem?_eq_getElem (by omega)⟩
                      obtain ⟨hown, hflen⟩ := hf14.2 n0 vl fl hvl hfl2
                      obtain ⟨af, cf, rfl, hstr⟩ := own_strs hown (by omega)
                      obtain ⟨b14, off14, rfl, hc14a⟩ := own_cell o14 hvl
                      obtain ⟨b13, off13, rfl, hc13a⟩ := own_cell HT2.out.own13 (i := n0) (x := .int .i64 (kl : Int)) (by simp [intsV, hkl])
                      have hlast : l.getLast? = some kl := by rw [List.getLast?_eq_getElem?, hl0]; exact hkl
                      have hlastf : frs.getLast? = some fl := by rw [List.getLast?_eq_getElem?, hfl]; exact hfl2
                      have hb13 : some b13 ≠ some mb := fun e => smap_ne HT2.out.map hc13a (Option.some.inj e)
                      have hklr : kl < r.body.length := HLM.out kl (List.mem_of_getElem? hkl)
                      have HO14 := Lib.hid o14
                      have HF14 := Lib.hid hf14
                      have HSTR := Lib.hid hstr
                      have HLA := Lib.hid hlast
                      have HLF := Lib.hid hlastf
                      have HL0 := Lib.hid hl0
                      have HFL := Lib.hid hfl
                      clear hvl hfl2 hkl hown o14 hf14 hstr hlast hlastf
                      go_wp2_with (go_at_call 140; (with_reducible refine (c_forget (fv m') fl _ _ _ mb _ HT2.out.map HSTR.out).mono ?_); rintro e w9 ⟨rfl, hg9, hs9⟩; have hc13b := hg9.cell hc13a hb13)
                      have hs13 : (n0 : Int) ≤ (c13 : Int) := by omega
                      have hs14 : (n0 : Int) ≤ (c14 : Int) := by omega
                      have hs13' : n0 ≤ c13 := by omega
                      have hs14' : n0 ≤ c14 := by omega
                      have hkl2 : (kl : Int) ≤ 1353245080303 := by omega
                      go_quiet (fail)
                      go_wp2
                      have hst9 : SrSt w5 mb (withoutT m' fl) l.dropLast frs.dropLast (.slice (some ⟨b13, off13, none⟩) n0 c13) (.slice (some ⟨b14, off14, none⟩) n0 c14) w9 := by
                        have h9 := HT2.out.turn (m' := withoutT m' fl) mbl hg9 (by
                          have e : fv (withoutT m' fl) = without (fv m') fl := by
                            funext x
                            by_cases h : x ∈ fl <;> simp [fv, withoutT, without, h]
                          rw [e]; exact hs9)
                        obtain ⟨vals9, o9, f9⟩ := h9.own14
                        have e1 := HL0.out
                        have e2 := HFL.out
                        have o13 := h9.own13
                        rw [e1] at o13
                        rw [e2] at o9
                        have p13 := own_pop o13
                        have p14 := own_pop o9
                        have d1 : l.dropLast.length = n0 := by rw [List.length_dropLast, e1]; rfl
                        have d2 : frs.dropLast.length = n0 := by rw [List.length_dropLast, e2]; rfl
                        refine ⟨h9.beside, h9.map, ?_, ⟨vals9.take n0, ?_, ?_, ?_⟩, by rw [d1, d2]⟩
                        · rw [d1]
                          have : intsV l.dropLast = (intsV l).take (n0 * 1) := by
                            rw [Nat.mul_one, List.dropLast_eq_take, e1]
                            simp [intsV, List.map_take]
                          rw [this]
                          exact p13
                        · rw [d2]
                          rw [Nat.mul_one] at p14
                          exact p14
                        · rw [List.length_take, f9.1, e2, d2]; omega
                        · intro i v fr hv hf
                          rw [List.dropLast_eq_take, e2] at hf
                          rw [List.getElem?_take] at hv hf
                          split at hv
                          · rename_i hi
                            rw [if_pos (by omega)] at hf
                            exact f9.2 i v fr hv hf
                          · cases hv
                      have H9 := Lib.hid hst9
                      have hfm := HF.out
                      have hmu := meas_le (a := 65537 - lk) (b := 65537 - looks) (M := s.body.length + 2) (by omega)
                      have e1 := HL0.out
                      have e2 := HLA.out
                      have e3 := HLF.out
                      have HE : Hid (srch r.body s.body (65537 * (s.body.length + 2) + 1) ⟨m, [], [], 0, 0⟩ = srch r.body s.body f ⟨withoutT m' fl, l.dropLast, frs.dropLast, lk, kl + 1⟩) := by
                        have h := HQ2.out
                        rw [HD.out] at h
                        rw [e2, e3] at h
                        exact h
                      clear hst9 hg9 hs9
                      go_roundw
                      case rel => exact ⟨withoutT m' fl, l.dropLast, frs.dropLast, lk, kl + 1, f, rfl, by go_num, by omega, by omega, by rw [List.length_dropLast]; omega, fun x hx => HLM.out x ((List.dropLast_sublist l).subset hx), by rw [List.length_dropLast]; omega, H9.out.grow mbl (ext_drewN (Below.refl _ _) _), HE.out⟩
                      case measure =>
                        simp only [intOf, sliceLen, Int.toNat_natCast]
                        omega
              · go_wp2
                rw [Exit.noGoto_ret]
                go_ret3
                refine ⟨hext, ?_⟩
                have hnone : s.body[l.length]? = none := List.getElem?_eq_none (by omega)
                obtain ⟨f, rfl⟩ : ∃ g, f = g + 1 := ⟨f - 1, by have := HF.out; omega⟩
                have h2 := fin2.out
                rw [HQ.out, srch_done hnone] at h2
                rw [h2]
                exact ⟨_, rfl, own_base HT.out.own13 hmap.size⟩
end Go.Proofs.YtlalgaioiapjmaaGreatDoor.K
