/- The walk of a set's Add. The walk of Rows.Add. Rows.Has; Rows.Add with what it answers and what it changes. Maps whose keys are strings: what a look-up, a store, a deletion come to. Over any program. tuple.Base in memory: rows under names; its calls. -/
import Derived.Test.YtpgbenijjodoeaaGreatG0
import Derived.Test.YtpgbenijjodoeaaGreatG3
namespace Go.Proofs.YtpgbenijjodoeaaGreat
open Go.ChangeShapes Go.WideShapes Go.ChangeAt Go.RowKit
theorem InsPost.weak {base : Nat} {vs : List Value} {u : Value} {n i : Nat} {w : World} {e : Ending} {w' : World} (h : InsPost base vs u n i none w e w') (row : Option Nat) : InsPost base vs u n i row w e w' := by
  obtain ⟨g, c', h1, h2, h3, h4⟩ := h
  exact ⟨g, c', h1, h2, ⟨h3.os, h3.tape, h3.output, h3.size, fun k hk _ => h3.block k hk (by simp)⟩, h4.elim (fun e => by cases e) .inr⟩
theorem c_insert (vs : List Value) (u : Value) (a : Option Addr) (n c i gv : Nat) (base : Nat) (w : World) (hown : w.ownsRow base 46 1 (.slice a n c) n vs) (h1v : ∀ v ∈ vs, v.oneCell' = true) (hin : i ≤ n) (hgv : w.heap[gv]? = some (.cells #[u] 46 (0, 0))) (hne : ∀ b, (Value.slice a n c).ownBlock = some b → gv ≠ b) (hu : u.oneCell' = true) (hn : n ≤ 1000000) (hb : base ≤ w.heap.size) :
    Calls Tryz.prog 74 #[.slice a n c, .int .i64 (i : Int), .slice (some ⟨gv, 0, none⟩) 1 1] w (InsPost base vs u n i (Value.slice a n c).ownBlock w) := by
  have hvv : w.cell? ⟨gv, 0, none⟩ = some u := by simp [World.cell?, hgv]
  by_cases he : i = n
  · subst he
    exact c_insert_end vs u a i c gv base w hown hvv hu hn hb
  · obtain ⟨g, p, e, _⟩ := own_formS hown (by omega)
    cases e
    by_cases hr : n + 1 ≤ c
    · exact c_insert_shift vs u g n c i gv base w hown h1v (by omega) hr hgv (hne g rfl) hu hn
    · exact (c_insert_grow vs u g n c i gv base w hown h1v (by omega) (by omega) hvv hu hn hb).mono fun e w' h => h.weak _
theorem rows_put {rs : List (List ByteArray)} {vs : List Value} {P : List ByteArray → Value → Prop} (hl : vs.length = rs.length) (h : ∀ (k : Nat) (r : List ByteArray) (v : Value), rs[k]? = some r → vs[k]? = some v → P r v) {t : List ByteArray} {u : Value} (hu : P t u) {i : Nat} (hi : i ≤ rs.length) :
    ∀ (k : Nat) (r : List ByteArray) (v : Value), (rs.take i ++ t :: rs.drop i)[k]? = some r → (vs.take i ++ u :: vs.drop i)[k]? = some v → P r v := by
  intro k r v hr hv
  have l1 : (rs.take i).length = i := by rw [List.length_take]; omega
  have l2 : (vs.take i).length = i := by rw [List.length_take]; omega
  rcases Nat.lt_trichotomy k i with hk | rfl | hk
  · rw [List.getElem?_append_left (by omega), List.getElem?_take, if_pos hk] at hr hv
    exact h k r v hr hv
  · rw [List.getElem?_append_right (by omega), l1, Nat.sub_self] at hr
    rw [List.getElem?_append_right (by omega), l2, Nat.sub_self] at hv
    cases hr
    cases hv
    exact hu
  · rw [List.getElem?_append_right (by omega), l1, show k - i = (k - i - 1) + 1 by omega, List.getElem?_cons_succ, List.getElem?_drop] at hr
    rw [List.getElem?_append_right (by omega), l2, show k - i = (k - i - 1) + 1 by omega, List.getElem?_cons_succ, List.getElem?_drop] at hv
    exact h _ r v hr hv
theorem RowsV.ext {w w' : World} {lo pb ar : Nat} {rs : List (List ByteArray)} (h : RowsV w lo pb ar rs) (e : Ext w w') : RowsV w' lo pb ar rs := by
  obtain ⟨a, c, vs, h1, h2, h3⟩ := h.row
  exact ⟨h.lt, keep e h.c0, keep e h.c2, (e.frozen (p := ⟨pb, 1, none⟩) (World.block_lt_of_cell? w ⟨pb, 1, none⟩ h1)).trans h.free, a, c, vs, keep e h1, up_ext h2 e, fun i r v hr hv => up_ext (h3 i r v hr hv) e⟩
/-- The block of a Rows' list. -/
def itemB (w : World) (pb : Nat) : Option Nat := match w.cell? ⟨pb, 1, none⟩ with
  | some (.slice (some a) _ _) => some a.block
  | _ => none
/-- What an Add changes: the object, its list. -/
structure AddF (pb : Nat) (w w' : World) : Prop where
  but : ButS (fun b => b = pb ∨ itemB w pb = some b) w w'
  itm : itemB w' pb = itemB w pb ∨ ∃ g, itemB w' pb = some g ∧ w.heap.size ≤ g
  typ : ∀ cs t x, w.heap[pb]? = some (.cells cs t x) → ∃ cs', w'.heap[pb]? = some (.cells cs' t x)
theorem AddF.refl (pb : Nat) (w : World) : AddF pb w w := ⟨ButS.refl _ _, .inl rfl, fun cs _ _ h => ⟨cs, h⟩⟩
def AddPost (lo pb ar : Nat) (rs : List (List ByteArray)) (t : List ByteArray) (w : World) (e : Ending) (w' : World) : Prop := e = .returned (.bool (!foundB rs t)) ∧ RowsV w' lo pb ar (putRow rs t) ∧ ButS (fun b => b = pb ∨ lo ≤ b) w w' ∧ AddF pb w w'
theorem typ_setCell {w : World} {pb : Nat} {cs : Array Value} {t : TypeId} {x : Nat × Nat} (h : w.heap[pb]? = some (.cells cs t x)) (k : Nat) (v : Value) : ∃ cs', (w.setCell ⟨pb, k, none⟩ v).heap[pb]? = some (.cells cs' t x) := by
  refine ⟨cs.setIfInBounds k v, ?_⟩
  simp [World.setCell, Array.getElem?_modify, h]
theorem RowsV.put {w w' : World} {lo pb ar : Nat} {rs : List (List ByteArray)} {t : List ByteArray} {a : Option Addr} {c : Nat} {vs : List Value} {u : Value} {o : Obj} {g c' : Nat} (h : RowsV w lo pb ar rs) (h1 : w.cell? ⟨pb, 1, none⟩ = some (.slice a rs.length c)) (h2 : w.ownsRow lo 46 1 (.slice a rs.length c) rs.length vs) (h3 : ∀ (i : Nat) (r : List ByteArray) (v : Value), rs[i]? = some r → vs[i]? = some v → w.ownsRow lo 9 1 v r.length (r.map Value.string)) (hu : w.ownsRow lo 9 1 u t.length (t.map Value.string)) (hf : ¬ foundB rs t = true) (hlow : lowB rs t ≤ rs.length)
    (r1 : w'.ownsRow lo 46 1 (.slice (some ⟨g, 0, none⟩) (rs.length + 1) c') (rs.length + 1) (vs.take (lowB rs t) ++ u :: vs.drop (lowB rs t))) (r2 : (w.alloc o).grownBy w' (Value.slice a rs.length c).ownBlock) (r3 : (Value.slice a rs.length c).ownBlock = some g ∨ (w.alloc o).heap.size ≤ g) :
    w'.cell? ⟨pb, 1, none⟩ = some (.slice a rs.length c) ∧ w'.frozen? ⟨pb, 1, none⟩ = false ∧ RowsV (w'.setCell ⟨pb, 1, none⟩ (.slice (some ⟨g, 0, none⟩) (rs.length + 1) c')) lo pb ar (putRow rs t) ∧ ButS (fun b => b = pb ∨ lo ≤ b) w (w'.setCell ⟨pb, 1, none⟩ (.slice (some ⟨g, 0, none⟩) (rs.length + 1) c')) ∧ AddF pb w (w'.setCell ⟨pb, 1, none⟩ (.slice (some ⟨g, 0, none⟩) (rs.length + 1) c')) := by
  have hpw : pb < w.heap.size := World.block_lt_of_cell? w ⟨pb, 1, none⟩ h1
  have hlen : vs.length = rs.length := by have := h2.1; omega
  have hblk : w'.heap[pb]? = w.heap[pb]? := (r2.block pb (by simp; omega) (fun e => by
    have := (h2.lt pb e.symm).1
    have := h.lt
    omega)).trans ((ext_alloc (Below.refl _ w : Ext w w) o).block pb hpw)
  have cellp : ∀ k v, w.cell? ⟨pb, k, none⟩ = some v → w'.cell? ⟨pb, k, none⟩ = some v := fun k v hk => by
    rw [← hk]
    exact World.cell?_of_block hblk
  have hfz : w'.frozen? ⟨pb, 1, none⟩ = false := by
    rw [← h.free]
    unfold World.frozen?
    simp only
    rw [hblk]
  have str : ∀ {v : Value} {n : Nat} {xs : List Value}, w.ownsRow lo 9 1 v n xs → (w'.setCell ⟨pb, 1, none⟩ (.slice (some ⟨g, 0, none⟩) (rs.length + 1) c')).ownsRow lo 9 1 v n xs := fun hh => ownsRow_setCell_below ((hh.alloc o).kept r2 (own_apart (hh.alloc o) (h2.alloc o) (by decide))) (a := ⟨pb, 1, none⟩) h.lt _
  have hput : putRow rs t = rs.take (lowB rs t) ++ t :: rs.drop (lowB rs t) := by unfold putRow; rw [if_neg hf]
  have hpl : (putRow rs t).length = rs.length + 1 := by rw [hput]; simp; omega
  refine ⟨cellp 1 _ h1, hfz, ⟨h.lt, ?_, ?_, ?_, some ⟨g, 0, none⟩, c', vs.take (lowB rs t) ++ u :: vs.drop (lowB rs t), ?_, ?_, ?_⟩, ?_, ?_⟩
  · rw [World.cell?_setCell_other _ _ _ _ (by simp)]
    exact cellp 0 _ h.c0
  · rw [World.cell?_setCell_other _ _ _ _ (by simp)]
    exact cellp 2 _ h.c2
  · rw [World.frozen?_setCell]
    exact hfz
  · rw [hpl]
    exact World.cell?_setCell_same _ _ _ (cellp 1 _ h1)
  · rw [hpl]
    exact ownsRow_setCell_below r1 (a := ⟨pb, 1, none⟩) h.lt _
  · rw [hput]
    exact rows_put hlen (fun i r v hr hv => str (h3 i r v hr hv)) (str hu) hlow
  · exact (((ButS.refl _ w).alloc o).grown r2 (fun b e => .inl (.inr (h2.lt b e).1))).set (.inl (.inl rfl)) _ _
  · have hib : itemB w pb = (Value.slice a rs.length c).ownBlock := by
      unfold itemB
      rw [h1]
      cases a <;> rfl
    refine ⟨(((ButS.refl _ w).alloc o).grown r2 (fun b e => .inl (.inr (hib.trans e)))).set (.inl (.inl rfl)) _ _, ?_, fun cs ty x hx => ?_⟩
    · have hnew : itemB (w'.setCell ⟨pb, 1, none⟩ (.slice (some ⟨g, 0, none⟩) (rs.length + 1) c')) pb = some g := by
        unfold itemB
        rw [World.cell?_setCell_same _ _ _ (cellp 1 _ h1)]
      rw [hnew, hib]
      rcases r3 with r3 | r3
      · exact .inl r3.symm
      · simp at r3
        exact .inr ⟨g, rfl, by omega⟩
    · exact typ_setCell (hblk.trans hx) _ _
set_option maxRecDepth 100000 in
set_option maxHeartbeats 4000000 in
theorem c_addS (lo pb ar : Nat) (rs : List (List ByteArray)) (t : List ByteArray) (a : Option Addr) (c : Nat) (w : World) (h : RowsV w lo pb ar rs) (hr : Rising rs) (hu : w.ownsRow lo 9 1 (.slice a t.length c) t.length (t.map Value.string)) (hn : rs.length ≤ 65536) (hlo : lo ≤ w.heap.size) :
    Calls Tryz.prog 57 #[.pointer (some ⟨pb, 0, none⟩), .slice a t.length c] w (AddPost lo pb ar rs t w) := by
  obtain ⟨ai, ci, h1, hit⟩ := h.items (by unfold maxLen; omega)
  obtain ⟨a0, c0, vs, h1', h2, h3⟩ := h.row
  rw [h1] at h1'
  cases h1'
  have FIND := Lib.hid (c_find rs t pb ai rs.length ci a t.length c w h.c0 h1 hit (own_strs hu (own_len hu).1) (hr.cut t) (by omega))
  have hlow := (low_spec hr t).1
  have h1v : ∀ v ∈ vs, v.oneCell' = true := fun v hv => by
    obtain ⟨k, hk⟩ := List.mem_iff_getElem?.1 hv
    have hlen : vs.length = rs.length := by have := h2.1; omega
    have hkl := (List.getElem?_eq_some_iff.1 hk).1
    obtain ⟨r, hrr⟩ : ∃ r, rs[k]? = some r := ⟨_, List.getElem?_eq_getElem (by omega)⟩
    obtain ⟨_, _, e, _⟩ := own_form (h3 k r v hrr hk)
    rw [e]
    rfl
  have H := Lib.hid h
  have H2 := Lib.hid h2
  have H3 := Lib.hid h3
  have HU := Lib.hid hu
  have HV := Lib.hid h1v
  have HLOW := Lib.hid hlow
  have HLO := Lib.hid hlo
  clear hit hr hu h1v hlo h2 h3
  obtain ⟨f, hf⟩ : ∃ f, foundB rs t = f := ⟨_, rfl⟩
  have HF := Lib.hid hf
  rw [hf] at FIND
  obtain ⟨i, hi⟩ : ∃ i, lowB rs t = i := ⟨_, rfl⟩
  have HI := Lib.hid hi
  rw [hi] at FIND hlow
  clear hf hi
  have hpw : pb < w.heap.size := World.block_lt_of_cell? w ⟨pb, 1, none⟩ h1
  cases f with
  | true =>
    clear h h1
    go_enter Tryz.func57, Tryz.ntmps57
    go_wp2_with (go_at_call 61; (with_reducible refine FIND.out.mono ?_); rintro e w1 ⟨rfl, hw1⟩; obtain rfl := hw1.symm)
    go_returns
    exact ⟨by rw [HF.out]; rfl, by unfold putRow; rw [if_pos HF.out]; exact H.out, ButS.refl _ _, AddF.refl _ _⟩
  | false =>
    have hgv : (w.alloc (.cells #[.slice a t.length c] 46)).heap[w.heap.size]? = some (.cells #[.slice a t.length c] 46 (0, 0)) := heap_alloc_new w _
    have INS := Lib.hid (c_insert vs (.slice a t.length c) ai rs.length ci i w.heap.size lo (w.alloc (.cells #[.slice a t.length c] 46)) (H2.out.alloc _) HV.out hlow hgv (fun b e => by have := (H2.out.lt b e).2; omega) rfl (by omega) (size_alloc_le HLO.out))
    have fr := h.free
    clear h hgv
    go_enter Tryz.func57, Tryz.ntmps57
    go_wp2_with (first
      | (go_at_call 61; (with_reducible refine FIND.out.mono ?_); rintro e w1 ⟨rfl, hw1⟩; obtain rfl := hw1.symm)
      | (go_at_call 74; (with_reducible refine INS.out.mono ?_); rintro e w1 ⟨g7, p7, rfl, r1, r2, r3⟩; rw [← HI.out] at r1; obtain ⟨q1, q2, q3, q4, q5⟩ := H.out.put h1 H2.out H3.out HU.out (by rw [HF.out]; simp) HLOW.out r1 r2 r3))
    go_returns
    exact ⟨by rw [HF.out]; rfl, q3, q4, q5⟩
end Go.Proofs.YtpgbenijjodoeaaGreat
namespace Go.Proofs.YtpgbenijjodoeaaGreat
open Go.ChangeShapes Go.WideShapes Go.ChangeAt Go.RowKit
theorem putRow_len (rs : List (List ByteArray)) (t : List ByteArray) : (putRow rs t).length ≤ rs.length + 1 := by
  unfold putRow
  split
  · omega
  · simp
    omega
end Go.Proofs.YtpgbenijjodoeaaGreat
namespace Go.Proofs.YtpgbenijjodoeaaGreat
open Go.ChangeShapes Go.WideShapes Go.ChangeAt Go.RowKit
set_option maxRecDepth 100000 in
theorem c_hasR (lo pb ar : Nat) (rs : List (List ByteArray)) (t : List ByteArray) (ab : Option Addr) (m cb : Nat) (w : World) (h : RowsV w lo pb ar rs) (hr : Rising rs) (hn : rs.length ≤ 1000000) (hb : StrsAt w ab m t) :
    Calls Tryz.prog 13 #[.pointer (some ⟨pb, 0, none⟩), .slice ab m cb] w fun e w' => e = .returned (.bool (foundB rs t)) ∧ w' = w := by
  obtain ⟨a, c, h1, hit⟩ := h.items (by unfold maxLen; omega)
  have FI := Lib.hid (c_find rs t pb a rs.length c ab m cb w h.c0 h1 hit hb (hr.cut t) (by omega))
  have SE := Lib.hid (c_set lo pb ar rs w h)
  have HS : Hid (Calls Tryz.prog 34 #[.pointer (some ⟨pb, 0, none⟩), .slice ab m cb] w fun e w' => e = .returned (.bool (foundB rs t)) ∧ w' = w) := by
    show Calls _ _ _ _ _
    clear h hr hb h1 hit SE hn
    go_enter Tryz.func34, Tryz.ntmps34
    go_wp2_with (go_at_call 61; (with_reducible refine FI.out.mono ?_); rintro e w1 ⟨rfl, hw1⟩; obtain rfl := hw1.symm)
    go_returns
    first | trivial | exact ⟨rfl, rfl⟩
  clear h hr hb h1 hit FI hn
  go_enter Tryz.func13, Tryz.ntmps13
  go_wp2_with (first
    | (go_at_call 33; (with_reducible refine SE.out.mono ?_); rintro e w1 ⟨rfl, hw1⟩; obtain rfl := hw1.symm)
    | (go_at_call 34; (with_reducible refine HS.out.mono ?_); rintro e w2 ⟨rfl, hw2⟩; obtain rfl := hw2.symm))
  go_returns
  first | trivial | exact ⟨rfl, rfl⟩
/-- What Rows.Add answers. -/
def addErr (ar : Nat) (rs : List (List ByteArray)) (t : List ByteArray) : Int := if t.length ≠ ar then 30 else if mayRow t = false then 31 else if 65536 ≤ rs.length ∧ foundB rs t = false then 4 else 0
def addTo (ar : Nat) (rs : List (List ByteArray)) (t : List ByteArray) : List (List ByteArray) := if addErr ar rs t = 0 then putRow rs t else rs
def AddR2 (lo pb ar : Nat) (rs : List (List ByteArray)) (t : List ByteArray) (w : World) (e : Ending) (w' : World) : Prop := e = .returned (.tuple #[.bool (decide (addErr ar rs t = 0) && !foundB rs t), .int .i64 (addErr ar rs t)]) ∧ RowsV w' lo pb ar (addTo ar rs t) ∧ AddF pb w w'
theorem AddF.after {pb : Nat} {w w1 w' : World} (e : Ext w w1) (hp : (w.cell? ⟨pb, 1, none⟩).isSome = true) (h : AddF pb w1 w') : AddF pb w w' := by
  obtain ⟨v, hv⟩ := Option.isSome_iff_exists.1 hp
  have hv1 := keep e hv
  have hi : itemB w1 pb = itemB w pb := by unfold itemB; rw [hv, hv1]
  have hpl : pb < w.heap.size := World.block_lt_of_cell? w ⟨pb, 1, none⟩ hv
  refine ⟨((ButS.refl _ w).ext e).trans (h.but.mono fun b _ hb => by rwa [hi] at hb), ?_, fun cs t x hx => h.typ cs t x ((e.block pb hpl).trans hx)⟩
  rcases h.itm with q | ⟨g, q, hg⟩
  · exact .inl (q.trans hi)
  · exact .inr ⟨g, q, Nat.le_trans e.size hg⟩
set_option maxRecDepth 100000 in
theorem c_addR2 (lo pb ar : Nat) (rs : List (List ByteArray)) (t : List ByteArray) (a : Option Addr) (n c : Nat) (w : World) (h : RowsV w lo pb ar rs) (hr : Rising rs) (ht : StrsAt w a n t) (hnil : a = none → n = 0 ∧ c = 0) (hn1 : n ≤ 8796093022207) (hn : rs.length ≤ 65536) (hlo : lo ≤ w.heap.size) :
    Calls Tryz.prog 30 #[.pointer (some ⟨pb, 0, none⟩), .slice a n c] w (AddR2 lo pb ar rs t w) := by
  have H := Lib.hid h
  have HT := Lib.hid ht
  have HN := Lib.hid hnil
  have HR := Lib.hid hr
  have HL := Lib.hid hlo
  have c2 := h.c2
  have hlen : t.length = n := ht.2.1
  have HC : Hid ((w.cell? ⟨pb, 1, none⟩).isSome = true) := by
    obtain ⟨_, _, _, h1, _⟩ := h.row
    show _ = _
    rw [h1]
    rfl
  have HAS := Lib.hid (c_hasR lo pb ar rs t a n c w h hr (by omega) ht)
  have HLEN := Lib.hid hlen
  clear h ht hnil hr hlo hlen
  by_cases hne : n = ar
  · subst hne
    obtain ⟨b, hb⟩ : ∃ b, mayRow t = b := ⟨_, rfl⟩
    have HB := Lib.hid hb
    have hnn : ((n : Int) != (n : Int)) = false := by simp
    cases b with
    | false =>
      have HQ : Hid (addErr n rs t = 31) := by show _ = _; unfold addErr; rw [hb, if_neg (by simp [HLEN.out]), if_pos rfl]
      clear hb HAS
      go_enter Tryz.func30, Tryz.ntmps30
      go_wp2_with (go_at_call 44; (with_reducible refine (c_tTexts t _ _ _ _ HT.out).mono ?_); rw [HB.out]; rintro e w1 ⟨rfl, hw1⟩; obtain rfl := hw1.symm)
      go_ret2
      exact ⟨by rw [HQ.out]; rfl, by unfold addTo; rw [HQ.out]; exact H.out, AddF.refl _ _⟩
    | true =>
      obtain ⟨f, hf⟩ : ∃ f, foundB rs t = f := ⟨_, rfl⟩
      have HF := Lib.hid hf
      rw [hf] at HAS
      have CL := Lib.hid (c_cloneS t a n c w HT.out (by omega) HN.out)
      have AD : Hid (∀ a' c' w1, w1.ownsRow w.heap.size 9 1 (.slice a' n c') n (t.map Value.string) → Ext w w1 → Calls Tryz.prog 57 #[.pointer (some ⟨pb, 0, none⟩), .slice a' n c'] w1 (AddPost lo pb n rs t w1)) := by
        intro a' c' w1 ho he
        have := HLEN.out
        subst this
        exact c_addS lo pb _ rs t a' c' w1 (H.out.ext he) HR.out (own_base ho HL.out) hn (Nat.le_trans HL.out he.size)
      by_cases hfull : 65536 ≤ rs.length
      · have hge : decide ((65536 : Int) ≤ (rs.length : Int)) = true := decide_eq_true (by omega)
        cases f with
        | false =>
          have HQ : Hid (addErr n rs t = 4) := by show _ = _; unfold addErr; rw [hb, hf, if_neg (by simp [HLEN.out]), if_neg (by simp), if_pos ⟨hfull, rfl⟩]
          clear hb hf hn
          go_enter Tryz.func30, Tryz.ntmps30
          go_wp2_with (first
            | (go_at_call 44; (with_reducible refine (c_tTexts t _ _ _ _ HT.out).mono ?_); rw [HB.out]; rintro e w1 ⟨rfl, hw1⟩; obtain rfl := hw1.symm)
            | (go_at_call 56; (with_reducible refine (c_lenR lo pb n rs _ H.out).mono ?_); rintro e w1 ⟨rfl, hw1⟩; obtain rfl := hw1.symm)
            | (go_at_call 13; (with_reducible refine HAS.out.mono ?_); rintro e w1 ⟨rfl, hw1⟩; obtain rfl := hw1.symm))
          go_ret2
          exact ⟨by rw [HQ.out]; rfl, by unfold addTo; rw [HQ.out]; exact H.out, AddF.refl _ _⟩
        | true =>
          have HQ : Hid (addErr n rs t = 0) := by show _ = _; unfold addErr; rw [hb, hf, if_neg (by simp [HLEN.out]), if_neg (by simp), if_neg (by simp)]
          clear hb hf hn
          go_enter Tryz.func30, Tryz.ntmps30
          go_wp2_with (first
            | (go_at_call 44; (with_reducible refine (c_tTexts t _ _ _ _ HT.out).mono ?_); rw [HB.out]; rintro e w1 ⟨rfl, hw1⟩; obtain rfl := hw1.symm)
            | (go_at_call 56; (with_reducible refine (c_lenR lo pb n rs _ H.out).mono ?_); rintro e w1 ⟨rfl, hw1⟩; obtain rfl := hw1.symm)
            | (go_at_call 13; (with_reducible refine HAS.out.mono ?_); rintro e w1 ⟨rfl, hw1⟩; obtain rfl := hw1.symm)
            | (go_at_call 33; (with_reducible refine (c_set lo pb n rs _ H.out).mono ?_); rintro e w1 ⟨rfl, hw1⟩; obtain rfl := hw1.symm)
            | (go_at_call 58; (with_reducible refine CL.out.mono ?_); rintro e w7 ⟨a7, c7, rfl, r7, _, e7⟩)
            | (go_at_call 57; (with_reducible refine (AD.out _ _ _ r7 e7).mono ?_); rintro e w8 ⟨rfl, q8, b8, f8⟩))
          go_ret2
          exact ⟨by rw [HQ.out]; rfl, by unfold addTo; rw [HQ.out]; exact q8, f8.after e7 HC.out⟩
      · have hge : decide ((65536 : Int) ≤ (rs.length : Int)) = false := decide_eq_false (by omega)
        have HQ : Hid (addErr n rs t = 0) := by show _ = _; unfold addErr; rw [hb, if_neg (by simp [HLEN.out]), if_neg (by simp), if_neg (fun h => hfull h.1)]
        clear hb hf hn HAS hfull
        go_enter Tryz.func30, Tryz.ntmps30
        go_wp2_with (first
          | (go_at_call 44; (with_reducible refine (c_tTexts t _ _ _ _ HT.out).mono ?_); rw [HB.out]; rintro e w1 ⟨rfl, hw1⟩; obtain rfl := hw1.symm)
          | (go_at_call 56; (with_reducible refine (c_lenR lo pb n rs _ H.out).mono ?_); rintro e w1 ⟨rfl, hw1⟩; obtain rfl := hw1.symm)
          | (go_at_call 33; (with_reducible refine (c_set lo pb n rs _ H.out).mono ?_); rintro e w1 ⟨rfl, hw1⟩; obtain rfl := hw1.symm)
          | (go_at_call 58; (with_reducible refine CL.out.mono ?_); rintro e w7 ⟨a7, c7, rfl, r7, _, e7⟩)
          | (go_at_call 57; (with_reducible refine (AD.out _ _ _ r7 e7).mono ?_); rintro e w8 ⟨rfl, q8, b8, f8⟩))
        go_ret2
        exact ⟨by rw [HQ.out]; rfl, by unfold addTo; rw [HQ.out]; exact q8, f8.after e7 HC.out⟩
  · have hne2 : ¬ ((n : Int) = (ar : Int)) := by omega
    have HQ : Hid (addErr ar rs t = 30) := by show _ = _; unfold addErr; rw [if_pos (by rw [HLEN.out]; exact hne)]
    clear HAS
    go_enter Tryz.func30, Tryz.ntmps30
    go_wp2
    go_ret2
    exact ⟨by rw [HQ.out]; rfl, by unfold addTo; rw [HQ.out]; exact H.out, AddF.refl _ _⟩
end Go.Proofs.YtpgbenijjodoeaaGreat
namespace Go.Proofs.YtpgbenijjodoeaaGreat.K
open Go.RowKit
set_option linter.unusedSimpArgs false

theorem bytes_beq (a b : ByteArray) : (a == b) = decide (a = b) := by
  rw [beq_toListBytes, Bool.eq_iff_iff, beq_iff_eq, decide_eq_true_eq, toList_eq_iff]
  obtain ⟨⟨x⟩⟩ := b
  rw [ByteArray.toList_eq]
/-- What the entries hold under a key. -/
def lookE : List MapEntry → ByteArray → Option Value
  | [], _ => none
  | e :: es, k => match e.key with
    | .string s => if s = k then some e.val else lookE es k
    | _ => lookE es k
def keysOk (es : List MapEntry) : Prop := (∀ e ∈ es, ∃ s, e.key = .string s) ∧ (es.map (·.key)).Nodup
def SMap (w : World) (b : Nat) (f : ByteArray → Option Value) : Prop :=
  ∃ es clock, w.heap[b]? = some (.map es clock) ∧ keysOk es.toList ∧ ∀ k, f k = lookE es.toList k
def upd (f : ByteArray → Option Value) (k : ByteArray) (v : Option Value) : ByteArray → Option Value := fun x => if x = k then v else f x

theorem findNow_none {es : List MapEntry} (h : ∀ e ∈ es, ∃ s, e.key = .string s) (k : ByteArray) (hl : lookE es k = none) (i : Nat) : Instr.findNow .string (.string k) es i = some none := by
  induction es generalizing i with
  | nil => rfl
  | cons e es ih =>
    obtain ⟨s, hs⟩ := h e (by simp)
    simp only [lookE, hs] at hl
    split at hl
    · cases hl
    · rename_i hne
      have hb : (k == s) = false := by rw [bytes_beq]; simp; exact fun e => hne e.symm
      simp only [Instr.findNow, hs, Instr.sameNow, hb]
      exact ih (fun e he => h e (by simp [he])) hl (i + 1)
theorem findNow_some {es : List MapEntry} (h : ∀ e ∈ es, ∃ s, e.key = .string s) (k : ByteArray) {v : Value} (hl : lookE es k = some v) (i : Nat) :
    ∃ j e, Instr.findNow .string (.string k) es i = some (some (i + j, v)) ∧ es[j]? = some e ∧ e.key = .string k ∧ e.val = v := by
  induction es generalizing i with
  | nil => cases hl
  | cons e es ih =>
    obtain ⟨s, hs⟩ := h e (by simp)
    simp only [lookE, hs] at hl
    split at hl
    · rename_i he
      cases hl
      have hb : (k == s) = true := by rw [bytes_beq]; simp [he]
      exact ⟨0, e, by simp only [Instr.findNow, hs, Instr.sameNow, hb]; rfl, rfl, by rw [hs, he], rfl⟩
    · rename_i hne
      have hb : (k == s) = false := by rw [bytes_beq]; simp; exact fun e => hne e.symm
      obtain ⟨j, e', h1, h2, h3, h4⟩ := ih (fun e he => h e (by simp [he])) hl (i + 1)
      refine ⟨j + 1, e', ?_, by simpa using h2, h3, h4⟩
      simp only [Instr.findNow, hs, Instr.sameNow, hb]
      rw [h1]
      congr 3
      omega
section
variable {P : Program} {w : World} {b : Nat} {f : ByteArray → Option Value} {t kt et : TypeId}
theorem run_look (hs : SMap w b f) (ht : P.underlying t = some (.map kt et)) (hk : P.underlying kt = some .string) {z : Value} (hz : (zeroValue et).run P w = .ok z w) (k : ByteArray) (c : Bool) :
    (Instr.lookup t (.map (some b)) (.string k) c).run P w = .ok (if c then .tuple #[(f k).getD z, .bool (f k).isSome] else (f k).getD z) w := by
  obtain ⟨es, clock, h1, h2, h3⟩ := hs
  have hck : (Instr.checkKey es.isEmpty 10000 kt (.string k)).run P w = .ok () w := @MapKept.run_checkKey P w kt .string (.string k) hk (by exact trivial) es.isEmpty 9999
  rw [h3 k]
  cases hl : lookE es.toList k with
  | none =>
    have hf := MapKept.run_findKey (P := P) (w := w) hk (findNow_none h2.1 k hl 0)
    simp only [Instr.lookup, Sem.run_bind, run_underlying ht, Result.andThen_ok, Sem.run_pure, getObj, Sem.run, h1, hck, hf, hz]
    cases c <;> rfl
  | some v =>
    obtain ⟨j, e, hf0, _, _, _⟩ := findNow_some h2.1 k hl 0
    have hf := MapKept.run_findKey (P := P) (w := w) hk hf0
    simp only [Instr.lookup, Sem.run_bind, run_underlying ht, Result.andThen_ok, Sem.run_pure, getObj, Sem.run, h1, hck, hf]
    cases c <;> rfl

theorem eraseIdx_look {es : List MapEntry} (hk : keysOk es) {j : Nat} {e : MapEntry} {k : ByteArray} (hj : es[j]? = some e) (he : e.key = .string k) (x : ByteArray) :
    lookE (es.eraseIdx j) x = if x = k then none else lookE es x := by
  induction es generalizing j with
  | nil => simp at hj
  | cons a es ih =>
    obtain ⟨s, hs⟩ := hk.1 a (by simp)
    have hk' : keysOk es := ⟨fun e h => hk.1 e (by simp [h]), (List.nodup_cons.1 hk.2).2⟩
    cases j with
    | zero =>
      simp at hj
      subst hj
      rw [he] at hs
      cases hs
      simp only [List.eraseIdx_zero, List.tail_cons, lookE, he]
      by_cases hx : x = k
      · subst hx
        rw [if_pos rfl]
        cases hl : lookE es x with
        | none => rfl
        | some v =>
          exfalso
          obtain ⟨j, e', _, h2, h3, _⟩ := findNow_some hk'.1 x hl 0
          have hm : e'.key ∈ es.map (·.key) := List.mem_map.2 ⟨e', List.mem_of_getElem? h2, rfl⟩
          rw [h3, ← he] at hm
          exact (List.nodup_cons.1 hk.2).1 hm
      · rw [if_neg hx, if_neg (fun h => hx h.symm)]
    | succ j =>
      simp at hj
      simp only [List.eraseIdx_cons_succ, lookE, hs, ih hk' hj]
      by_cases hx : x = k
      · subst hx
        rw [if_pos rfl, if_pos rfl]
        split
        · rename_i h
          exfalso
          have hm : e.key ∈ es.map (·.key) := List.mem_map.2 ⟨e, List.mem_of_getElem? hj, rfl⟩
          rw [he, ← h, ← hs] at hm
          exact (List.nodup_cons.1 hk.2).1 hm
        · rfl
      · simp [hx]
theorem modify_look {es : List MapEntry} (hk : keysOk es) {j : Nat} {e : MapEntry} {k : ByteArray} (hj : es[j]? = some e) (he : e.key = .string k) (v : Value) (x : ByteArray) :
    lookE (es.modify j fun e => { e with key := .string k, val := v }) x = if x = k then some v else lookE es x := by
  induction es generalizing j with
  | nil => simp at hj
  | cons a es ih =>
    obtain ⟨s, hs⟩ := hk.1 a (by simp)
    have hk' : keysOk es := ⟨fun e h => hk.1 e (by simp [h]), (List.nodup_cons.1 hk.2).2⟩
    cases j with
    | zero =>
      simp at hj
      subst hj
      rw [he] at hs
      cases hs
      simp only [List.modify_zero_cons, lookE, he]
      by_cases hx : x = k
      · simp [hx]
      · simp [hx, Ne.symm hx]
    | succ j =>
      simp at hj
      simp only [List.modify_succ_cons, lookE, hs, ih hk' hj]
      by_cases hx : x = k
      · subst hx
        rw [if_pos rfl, if_pos rfl]
        split
        · rename_i h
          exfalso
          have hm : e.key ∈ es.map (·.key) := List.mem_map.2 ⟨e, List.mem_of_getElem? hj, rfl⟩
          rw [he, ← h, ← hs] at hm
          exact (List.nodup_cons.1 hk.2).1 hm
        · rfl
      · simp [hx]
theorem modify_ok {es : List MapEntry} (hk : keysOk es) {j : Nat} {e : MapEntry} {k : ByteArray} (hj : es[j]? = some e) (he : e.key = .string k) (v : Value) :
    keysOk (es.modify j fun e => { e with key := .string k, val := v }) := by
  have hm : (es.modify j fun e => { e with key := .string k, val := v }).map (·.key) = es.map (·.key) := by
    apply List.ext_getElem?
    intro i
    simp only [List.getElem?_map, List.getElem?_modify]
    by_cases hi : j = i
    · subst hi; simp [hj, he]
    · simp [hi]
  refine ⟨fun x hx => ?_, by rw [hm]; exact hk.2⟩
  have : x.key ∈ es.map (·.key) := by rw [← hm]; exact List.mem_map.2 ⟨x, hx, rfl⟩
  obtain ⟨y, hy, hyk⟩ := List.mem_map.1 this
  obtain ⟨s, hs⟩ := hk.1 y hy
  exact ⟨s, by rw [← hyk, hs]⟩
theorem push_look {es : List MapEntry} {k : ByteArray} (hl : lookE es k = none) (h : ∀ e ∈ es, ∃ s, e.key = .string s) (v : Value) (c : Nat) (x : ByteArray) :
    lookE (es ++ [{ key := .string k, val := v, born := c }]) x = if x = k then some v else lookE es x := by
  induction es with
  | nil =>
    by_cases hx : x = k
    · simp [lookE, hx]
    · simp [lookE, hx, Ne.symm hx]
  | cons a es ih =>
    obtain ⟨s, hs⟩ := h a (by simp)
    simp only [lookE, hs] at hl
    split at hl
    · cases hl
    · rename_i hne
      simp only [List.cons_append, lookE, hs, ih hl (fun e he => h e (by simp [he]))]
      by_cases hx : x = k
      · subst hx; simp [hne]
      · simp [hx]
theorem push_ok {es : List MapEntry} (hk : keysOk es) {k : ByteArray} (hl : lookE es k = none) (v : Value) (c : Nat) :
    keysOk (es ++ [{ key := .string k, val := v, born := c }]) := by
  refine ⟨fun e he => ?_, ?_⟩
  · rcases List.mem_append.1 he with h | h
    · exact hk.1 e h
    · simp at h; exact ⟨k, by rw [h]⟩
  · rw [List.map_append, List.nodup_append]
    refine ⟨hk.2, by simp, fun a ha b hb => ?_⟩
    simp at hb
    subst hb
    rintro rfl
    obtain ⟨e, he, hek⟩ := List.mem_map.1 ha
    clear ha
    have : ∀ es : List MapEntry, (∀ e ∈ es, ∃ s, e.key = .string s) → e ∈ es → lookE es k ≠ none := by
      intro es
      induction es with
      | nil => simp
      | cons a es ih =>
        intro h hm
        obtain ⟨s, hs⟩ := h a (by simp)
        simp only [lookE, hs]
        split
        · simp
        · rename_i hne
          rcases List.mem_cons.1 hm with rfl | hm
          · exfalso; rw [hek] at hs; cases hs; exact hne rfl
          · exact ih (fun e he => h e (by simp [he])) hm
    exact this es hk.1 he hl
/-- The world in which the map's block b has turned into o. -/
def setMap (w : World) (b : Nat) (o : Obj) : World := { w with heap := w.heap.setIfInBounds b o }
theorem setMap_grown (w : World) (b : Nat) (o : Obj) : w.grownBy (setMap w b o) (some b) :=
  ⟨rfl, rfl, rfl, by simp [setMap], fun k hk hne => by simp [setMap]; rw [Array.getElem?_setIfInBounds_ne (fun e => hne (by rw [e]))]⟩
theorem run_upd (hs : SMap w b f) (ht : P.underlying t = some (.map kt et)) (hk : P.underlying kt = some .string) (k : ByteArray) (v : Value) :
    ∃ o, (Instr.mapUpdate t (.map (some b)) (.string k) v).run P w = .ok () (setMap w b o) ∧ SMap (setMap w b o) b (upd f k (some v)) := by
  obtain ⟨es, clock, h1, h2, h3⟩ := hs
  have hck : (Instr.checkKey false 10000 kt (.string k)).run P w = .ok () w := @MapKept.run_checkKey P w kt .string (.string k) hk (by exact trivial) false 9999
  have hb : b < w.heap.size := (Array.getElem?_eq_some_iff.1 h1).1
  cases hl : lookE es.toList k with
  | none =>
    have hf := MapKept.run_findKey (P := P) (w := w) hk (findNow_none h2.1 k hl 0)
    refine ⟨.map (es.push { key := .string k, val := v, born := clock }) (clock + 1), ?_, ?_⟩
    · simp only [Instr.mapUpdate, Sem.run_bind, run_underlying ht, Result.andThen_ok, Sem.run_pure, getObj, Sem.run, h1, hck, hf, setObj]
      rfl
    · refine ⟨_, _, by simp [setMap, hb]; first | exact ⟨rfl, rfl⟩ | rfl, ?_, fun x => ?_⟩
      · rw [Array.toList_push]; exact push_ok h2 hl v clock
      · rw [Array.toList_push, push_look hl h2.1, upd, h3]
  | some u =>
    obtain ⟨j, e, hf0, hj, hek, _⟩ := findNow_some h2.1 k hl 0
    have hf := MapKept.run_findKey (P := P) (w := w) hk hf0
    have hj' : es[0 + j]? = some e := by simpa using hj
    have hbeq : (k == k) = true := by rw [bytes_beq]; simp
    refine ⟨.map (es.modify (0 + j) fun e => { e with key := .string k, val := v }) clock, ?_, ?_⟩
    · simp only [Instr.mapUpdate, Sem.run_bind, run_underlying ht, Result.andThen_ok, Sem.run_pure, getObj, Sem.run, h1, hck, hf, setObj, hj', Option.map_some, Option.getD_some, hek, Instr.keyThatStays, Instr.sameBits, hbeq, if_true]
      rfl
    · refine ⟨_, _, by simp [setMap, hb]; first | exact ⟨rfl, rfl⟩ | rfl, ?_, fun x => ?_⟩
      · rw [Array.toList_modify]; exact modify_ok h2 hj hek v
      · rw [Array.toList_modify, modify_look h2 hj hek, upd, h3]
theorem run_del (hs : SMap w b f) (ht : P.underlying t = some (.map kt et)) (hk : P.underlying kt = some .string) (k : ByteArray) (ty : TypeId) :
    ∃ o, (Builtin.delete_ #[t, kt] ty #[.map (some b), .string k]).run P w = .ok (.tuple #[]) (setMap w b o) ∧ SMap (setMap w b o) b (upd f k none) := by
  obtain ⟨es, clock, h1, h2, h3⟩ := hs
  have hck : (Instr.checkKey es.isEmpty 10000 kt (.string k)).run P w = .ok () w := @MapKept.run_checkKey P w kt .string (.string k) hk (by exact trivial) es.isEmpty 9999
  have hb : b < w.heap.size := (Array.getElem?_eq_some_iff.1 h1).1
  cases hl : lookE es.toList k with
  | none =>
    have hf := MapKept.run_findKey (P := P) (w := w) hk (findNow_none h2.1 k hl 0)
    refine ⟨.map es clock, ?_, ?_⟩
    · simp [Builtin.delete_, run_underlying ht, getObj, Sem.run, h1, hck, hf, setObj]
      rfl
    · refine ⟨_, _, by simp [setMap, hb]; first | exact ⟨rfl, rfl⟩ | rfl, h2, fun x => ?_⟩
      rw [upd, h3]
      by_cases hx : x = k
      · rw [if_pos hx, hx, hl]
      · rw [if_neg hx]
  | some u =>
    obtain ⟨j, e, hf0, hj, hek, _⟩ := findNow_some h2.1 k hl 0
    have hf := MapKept.run_findKey (P := P) (w := w) hk hf0
    refine ⟨.map (es.eraseIdxIfInBounds (0 + j)) clock, ?_, ?_⟩
    · simp [Builtin.delete_, run_underlying ht, getObj, Sem.run, h1, hck, hf, setObj]
      rfl
    · have hjlt : j < es.size := by have := (List.getElem?_eq_some_iff.1 hj).1; simpa using this
      have hte : (es.eraseIdxIfInBounds j).toList = es.toList.eraseIdx j := by
        simp [Array.eraseIdxIfInBounds, hjlt]
      refine ⟨_, _, by simp [setMap, hb]; first | exact ⟨rfl, rfl⟩ | rfl, ?_, fun x => ?_⟩
      · rw [hte]
        refine ⟨fun e he => h2.1 e (List.mem_of_mem_eraseIdx he), ?_⟩
        exact h2.2.sublist ((List.eraseIdx_sublist _ _).map _)
      · rw [hte, eraseIdx_look h2 hj hek, upd, h3]
theorem SMap.ext {w' : World} (hs : SMap w b f) (h : Ext w w') : SMap w' b f := by
  obtain ⟨es, clock, h1, h2, h3⟩ := hs
  exact ⟨es, clock, by rw [h.block b (Array.getElem?_eq_some_iff.1 h1).1]; exact h1, h2, h3⟩
theorem SMap.lt (hs : SMap w b f) : b < w.heap.size := by
  obtain ⟨es, clock, h1, h2, h3⟩ := hs
  exact (Array.getElem?_eq_some_iff.1 h1).1
theorem SMap.made (w : World) : SMap (w.alloc (.map #[] 0)) w.heap.size (fun _ => none) :=
  ⟨#[], 0, heap_alloc_new w _, ⟨by simp, by simp⟩, fun _ => rfl⟩
/-- Another block's cells stand when the map turns. -/
theorem setMap_cell {o : Obj} (hs : SMap w b f) (p : Addr) {v : Value} (hp : w.cell? p = some v) : (setMap w b o).cell? p = some v := by
  obtain ⟨es, clock, h1, _, _⟩ := hs
  have hne : p.block ≠ b := by
    intro e
    rw [← e] at h1
    simp [World.cell?, h1] at hp
  rw [← hp]
  exact World.cell?_of_block (by simp [setMap]; rw [Array.getElem?_setIfInBounds_ne (fun e => hne e.symm)])
/-- What lies below the map's block stands when the map turns. -/
theorem setMap_below {o : Obj} {B : Nat} (hB : B ≤ b) : Below B w (setMap w b o) :=
  ⟨rfl, rfl, rfl, by simp [setMap], fun k hk => by simp [setMap]; rw [Array.getElem?_setIfInBounds_ne (by omega)]⟩
end
end Go.Proofs.YtpgbenijjodoeaaGreat.K
namespace Go.Proofs.YtpgbenijjodoeaaGreat
open Go.ChangeShapes Go.WideShapes Go.ChangeAt Go.RowKit
/-- The type of a block's cells. -/
def Ty (w : World) (b : Nat) (t : TypeId) : Prop := ∃ cs x, w.heap[b]? = some (.cells cs t x)
theorem Ty.ne {w : World} {b b' : Nat} {t t' : TypeId} (h : Ty w b t) (h' : Ty w b' t') (hne : t ≠ t') : b ≠ b' := by
  rintro rfl
  obtain ⟨cs, x, e⟩ := h
  obtain ⟨cs', x', e'⟩ := h'
  rw [e] at e'
  injection e' with e'
  injection e' with _ e2
  exact hne e2
theorem Ty.ext {w w' : World} {b : Nat} {t : TypeId} (h : Ty w b t) (e : Ext w w') : Ty w' b t := by
  obtain ⟨cs, x, q⟩ := h
  exact ⟨cs, x, (e.block b (Array.getElem?_eq_some_iff.1 q).1).trans q⟩
theorem Ty.but {w w' : World} {b : Nat} {t : TypeId} {S : Nat → Prop} (h : Ty w b t) (e : ButS S w w') (hs : ¬ S b) : Ty w' b t := by
  obtain ⟨cs, x, q⟩ := h
  exact ⟨cs, x, (e.block b (Array.getElem?_eq_some_iff.1 q).1 hs).trans q⟩
theorem Ty.lt {w : World} {b : Nat} {t : TypeId} (h : Ty w b t) : b < w.heap.size := by
  obtain ⟨cs, x, q⟩ := h
  exact (Array.getElem?_eq_some_iff.1 q).1
theorem own_ty {w : World} {base n size g : Nat} {e : TypeId} {v : Value} {xs : List Value} (h : w.ownsRow base e size v n xs) (hb : v.ownBlock = some g) : Ty w g e := by
  rcases h.2 with ⟨rfl, _⟩ | ⟨g', c', cur, rfl, _, hg, _⟩
  · cases hb
  · cases hb
    exact ⟨_, _, hg⟩
theorem item_own {w : World} {pb n c : Nat} {a : Option Addr} (h : w.cell? ⟨pb, 1, none⟩ = some (.slice a n c)) : itemB w pb = (Value.slice a n c).ownBlock := by
  unfold itemB
  rw [h]
  cases a <;> rfl
theorem RowsV.item_ty {w : World} {lo pb ar g : Nat} {rs : List (List ByteArray)} (h : RowsV w lo pb ar rs) (hg : itemB w pb = some g) : Ty w g 46 ∧ lo ≤ g := by
  obtain ⟨a, c, vs, h1, h2, _⟩ := h.row
  rw [item_own h1] at hg
  exact ⟨own_ty h2 hg, (h2.lt g hg).1⟩
theorem RowsV.but {w w' : World} {lo pb ar : Nat} {rs : List (List ByteArray)} {S : Nat → Prop} (h : RowsV w lo pb ar rs) (e : ButS S w w') (h1 : ¬ S pb) (h2 : ∀ g, itemB w pb = some g → ¬ S g) (h3 : ∀ b, S b → ¬ Ty w b 9) : RowsV w' lo pb ar rs ∧ itemB w' pb = itemB w pb := by
  obtain ⟨a, c, vs, r1, r2, r3⟩ := h.row
  have ib := item_own r1
  have r1' := e.cell h1 r1
  refine ⟨⟨h.lt, e.cell h1 h.c0, e.cell h1 h.c2, ?_, a, c, vs, r1', e.own r2 (fun b hb => h2 b (ib.trans hb)), fun i r v hr hv => e.own (r3 i r v hr hv) (fun b hb hS => h3 b hS (own_ty (r3 i r v hr hv) hb))⟩, by rw [item_own r1', ib]⟩
  have := h.free
  unfold World.frozen? at this ⊢
  simp only at this ⊢
  rw [e.block pb (World.block_lt_of_cell? w ⟨pb, 1, none⟩ r1) h1]
  exact this
theorem frozen_but {w w' : World} {S : Nat → Prop} {b o : Nat} {q : Bool} (e : ButS S w w') (hs : ¬ S b) (hb : b < w.heap.size) (h : w.frozen? ⟨b, o, none⟩ = q) : w'.frozen? ⟨b, o, none⟩ = q := by
  unfold World.frozen? at h ⊢
  simp only at h ⊢
  rw [e.block b hb hs]
  exact h
/-- What a relation's rows are. -/
structure RelOk (ar : Nat) (rs : List (List ByteArray)) : Prop where
  wide : ar ≤ 64
  up : Rising rs
  few : rs.length ≤ 65536
  row : ∀ r ∈ rs, r.length = ar ∧ mayRow r = true
theorem RelOk.nil {ar : Nat} (h : ar ≤ 64) : RelOk ar [] := ⟨h, List.Pairwise.nil, by simp, by simp⟩
theorem RelOk.add {ar : Nat} {rs : List (List ByteArray)} (h : RelOk ar rs) (t : List ByteArray) : RelOk ar (addTo ar rs t) := by
  unfold addTo
  split
  · rename_i he
    unfold addErr at he
    split at he
    · cases he
    · rename_i h1
      split at he
      · cases he
      · rename_i h2
        split at he
        · cases he
        · rename_i h3
          refine ⟨h.wide, putRow_rising h.up t, ?_, fun r hr => ?_⟩
          · unfold putRow
            split
            · exact h.few
            · rename_i hf
              have hlow := (low_spec h.up t).1
              have : ¬ 65536 ≤ rs.length := fun q => h3 ⟨q, by simpa using hf⟩
              simp
              omega
          · rcases (putRow_mem h.up t r).1 hr with rfl | hr
            · exact ⟨by simpa using h1, by simpa using h2⟩
            · exact h.row r hr
  · exact h
/-- A base as it lies: of each name the block of its rows, their arity, the rows. -/
abbrev RelM := ByteArray → Option (Nat × Nat × List (List ByteArray))
def updF {α : Type} (f : ByteArray → Option α) (k : ByteArray) (v : α) : ByteArray → Option α := fun x => if x = k then some v else f x
structure BaseR (w : World) (lo bb : Nat) (f : RelM) : Prop where
  low : lo ≤ bb
  ty : Ty w bb 71
  n : ∃ n, w.cell? ⟨bb, 1, none⟩ = some (.int .i64 n)
  free : w.frozen? ⟨bb, 1, none⟩ = false
  rel : ∀ k x, f k = some x → lo ≤ x.1 ∧ RowsV w (x.1 + 1) x.1 x.2.1 x.2.2 ∧ Ty w x.1 99 ∧ RelOk x.2.1 x.2.2
  apart : ∀ k k' x x', f k = some x → f k' = some x' → k ≠ k' → x.1 ≠ x'.1 ∧ ∀ g, itemB w x.1 = some g → itemB w x'.1 ≠ some g
def BaseMp (w : World) (lo bb : Nat) (m : ByteArray → Option Nat) : Prop := ∃ mb, lo ≤ mb ∧ w.cell? ⟨bb, 0, none⟩ = some (.map (some mb)) ∧ K.SMap w mb fun k => (m k).map fun pb => Value.pointer (some ⟨pb, 0, none⟩)
structure BaseV (w : World) (lo bb : Nat) (f : RelM) : Prop where
  r : BaseR w lo bb f
  m : BaseMp w lo bb fun k => (f k).map fun x => x.1
theorem BaseR.ext {w w' : World} {lo bb : Nat} {f : RelM} (h : BaseR w lo bb f) (e : Ext w w') : BaseR w' lo bb f := by
  have hi : ∀ k x, f k = some x → itemB w' x.1 = itemB w x.1 := fun k x hx => by
    obtain ⟨_, h2, _, _⟩ := h.rel k x hx
    obtain ⟨a, c, vs, r1, _⟩ := h2.row
    rw [item_own r1, item_own (keep e r1)]
  obtain ⟨n, hn⟩ := h.n
  refine ⟨h.low, h.ty.ext e, ⟨n, keep e hn⟩, (e.frozen (p := ⟨bb, 1, none⟩) h.ty.lt).trans h.free, fun k x hx => ?_, fun k k' x x' h1 h2 hne => ?_⟩
  · obtain ⟨q1, q2, q3, q4⟩ := h.rel k x hx
    exact ⟨q1, q2.ext e, q3.ext e, q4⟩
  · rw [hi k x h1, hi k' x' h2]
    exact h.apart k k' x x' h1 h2 hne
theorem BaseMp.ext {w w' : World} {lo bb : Nat} {m : ByteArray → Option Nat} (h : BaseMp w lo bb m) (e : Ext w w') : BaseMp w' lo bb m := by
  obtain ⟨mb, h1, h2, h3⟩ := h
  exact ⟨mb, h1, keep e h2, h3.ext e⟩
theorem BaseV.ext {w w' : World} {lo bb : Nat} {f : RelM} (h : BaseV w lo bb f) (e : Ext w w') : BaseV w' lo bb f := ⟨h.r.ext e, h.m.ext e⟩
theorem smap_but {w w' : World} {S : Nat → Prop} {mb : Nat} {f : ByteArray → Option Value} (h : K.SMap w mb f) (e : ButS S w w') (hs : ¬ S mb) : K.SMap w' mb f := by
  obtain ⟨es, clock, h1, h2, h3⟩ := h
  exact ⟨es, clock, by rw [e.block mb (Array.getElem?_eq_some_iff.1 h1).1 hs]; exact h1, h2, h3⟩
theorem smap_ty {w : World} {mb : Nat} {f : ByteArray → Option Value} (h : K.SMap w mb f) {t : TypeId} : ¬ Ty w mb t := by
  rintro ⟨cs, x, e⟩
  obtain ⟨es, clock, h1, _⟩ := h
  rw [h1] at e
  cases e
theorem BaseMp.but {w w' : World} {S : Nat → Prop} {lo bb : Nat} {m : ByteArray → Option Nat} (h : BaseMp w lo bb m) (e : ButS S w w') (hb : ¬ S bb) (hs : ∀ b, S b → ∃ t, Ty w b t) : BaseMp w' lo bb m := by
  obtain ⟨mb, h1, h2, h3⟩ := h
  exact ⟨mb, h1, e.cell hb h2, smap_but h3 e (fun q => by obtain ⟨t, ht⟩ := hs mb q; exact smap_ty h3 ht)⟩
/-- The blocks of a base that are written. -/
def BaseBl (w : World) (bb : Nat) (f : RelM) (b : Nat) : Prop := b = bb ∨ w.cell? ⟨bb, 0, none⟩ = some (.map (some b)) ∨ ∃ k x, f k = some x ∧ (b = x.1 ∨ itemB w x.1 = some b)
structure BMove (bb : Nat) (f f' : RelM) (w w' : World) : Prop where
  but : ButS (BaseBl w bb f) w w'
  own : ∀ b, BaseBl w' bb f' b → BaseBl w bb f b ∨ w.heap.size ≤ b
theorem BMove.trans {bb : Nat} {f g h : RelM} {x y z : World} (a : BMove bb f g x y) (b : BMove bb g h y z) : BMove bb f h x z :=
  ⟨⟨b.but.os.trans a.but.os, b.but.tape.trans a.but.tape, b.but.output.trans a.but.output, Nat.le_trans a.but.size b.but.size, fun k hk hn => (b.but.block k (Nat.lt_of_lt_of_le hk a.but.size) (fun q => (a.own k q).elim hn (fun q => by omega))).trans (a.but.block k hk hn)⟩, fun k hk => (b.own k hk).elim (a.own k) fun q => .inr (Nat.le_trans a.but.size q)⟩
theorem BaseR.ext_bl {w w' : World} {lo bb : Nat} {f : RelM} (h : BaseR w lo bb f) (e : Ext w w') {b : Nat} (hb : BaseBl w' bb f b) : BaseBl w bb f b := by
  rcases hb with hb | hb | ⟨k, x, hx, hb⟩
  · exact .inl hb
  · refine .inr (.inl ?_)
    rw [← hb]
    exact (World.cell?_of_block (e.block bb h.ty.lt)).symm
  · refine .inr (.inr ⟨k, x, hx, hb.imp id fun q => ?_⟩)
    obtain ⟨_, h2, _, _⟩ := h.rel k x hx
    obtain ⟨a, c, vs, r1, _⟩ := h2.row
    rw [item_own r1]
    rwa [item_own (keep e r1)] at q
theorem BaseR.ext_mv {w w' : World} {lo bb : Nat} {f : RelM} (h : BaseR w lo bb f) (e : Ext w w') : BMove bb f f w w' := ⟨(ButS.refl _ _).ext e, fun _ hb => .inl (h.ext_bl e hb)⟩
theorem BaseV.bl {w : World} {lo bb : Nat} {f : RelM} (h : BaseV w lo bb f) {b : Nat} (hb : BaseBl w bb f b) : lo ≤ b ∧ b < w.heap.size := by
  rcases hb with rfl | hb | ⟨k, x, hx, hb⟩
  · exact ⟨h.r.low, h.r.ty.lt⟩
  · obtain ⟨mb, h1, h2, h3⟩ := h.m
    rw [h2] at hb
    cases hb
    exact ⟨h1, h3.lt⟩
  · obtain ⟨q1, q2, q3, _⟩ := h.r.rel k x hx
    rcases hb with rfl | hb
    · exact ⟨q1, q3.lt⟩
    · have := q2.item_ty hb
      exact ⟨by have := this.2; omega, this.1.lt⟩
/-- A name's rows are written: all others stand. -/
theorem BaseR.added {w w' : World} {lo bb : Nat} {f : RelM} (h : BaseR w lo bb f) {k : ByteArray} {pb ar : Nat} {rs rs' : List (List ByteArray)} (hk : f k = some (pb, ar, rs)) (e : AddF pb w w') (h1 : RowsV w' (pb + 1) pb ar rs') (h2 : RelOk ar rs') : BaseR w' lo bb (updF f k (pb, ar, rs')) ∧ (∀ m, BaseMp w lo bb m → BaseMp w' lo bb m) ∧ ButS (fun b => lo ≤ b) w w' ∧ BMove bb f (updF f k (pb, ar, rs')) w w' := by
  obtain ⟨k1, k2, k3, k4⟩ := h.rel k _ hk
  have hS : ∀ b, (b = pb ∨ itemB w pb = some b) → (Ty w b 99 ∨ Ty w b 46) ∧ lo ≤ b := fun b hb => by
    rcases hb with rfl | hb
    · exact ⟨.inl k3, k1⟩
    · have := k2.item_ty hb
      have q : lo ≤ pb := k1
      exact ⟨.inr this.1, by have := this.2; simp only at this; omega⟩
  have nbb : ¬ (bb = pb ∨ itemB w pb = some bb) := fun q => by
    rcases (hS bb q).1 with q | q
    · exact h.ty.ne q (by decide) rfl
    · exact h.ty.ne q (by decide) rfl
  have nst : ∀ b, (b = pb ∨ itemB w pb = some b) → ¬ Ty w b 9 := fun b hb hq => by
    rcases (hS b hb).1 with q | q
    · exact hq.ne q (by decide) rfl
    · exact hq.ne q (by decide) rfl
  have oth : ∀ k' x', f k' = some x' → k' ≠ k → RowsV w' (x'.1 + 1) x'.1 x'.2.1 x'.2.2 ∧ itemB w' x'.1 = itemB w x'.1 := fun k' x' hx' hne => by
    obtain ⟨o1, o2, o3, o4⟩ := h.rel k' x' hx'
    obtain ⟨d1, d2⟩ := h.apart k k' _ _ hk hx' (Ne.symm hne)
    refine o2.but e.but ?_ ?_ nst
    · rintro (q | q)
      · exact d1 q.symm
      · exact (k2.item_ty q).1.ne o3 (by decide) rfl
    · rintro g hg (q | q)
      · subst q
        exact (o2.item_ty hg).1.ne k3 (by decide) rfl
      · exact d2 g q hg
  obtain ⟨n, hn⟩ := h.n
  have tyr : Ty w' pb 99 := by
    obtain ⟨cs, x, q⟩ := k3
    obtain ⟨cs', q'⟩ := e.typ cs _ x q
    exact ⟨cs', x, q'⟩
  have lt0 : ∀ g, itemB w pb = some g → g < w.heap.size := fun g hg => (k2.item_ty hg).1.lt
  refine ⟨⟨h.low, h.ty.but e.but nbb, ⟨n, e.but.cell nbb hn⟩, frozen_but e.but nbb h.ty.lt h.free, fun k' x' hx' => ?_, fun k' k'' x' x'' hx' hx'' hne => ?_⟩, fun m hm => hm.but e.but nbb (fun b hb => ?_), e.but.mono fun b _ hb => (hS b hb).2, e.but.mono fun b _ hb => .inr (.inr ⟨k, _, hk, hb⟩), fun b hb => ?_⟩
  · unfold updF at hx'
    split at hx'
    · cases hx'
      exact ⟨k1, h1, tyr, h2⟩
    · rename_i hne
      obtain ⟨o1, o2, o3, o4⟩ := h.rel k' x' hx'
      refine ⟨o1, (oth k' x' hx' hne).1, o3.but e.but ?_, o4⟩
      rintro (q | q)
      · exact (h.apart k k' _ _ hk hx' (Ne.symm hne)).1 q.symm
      · exact (k2.item_ty q).1.ne o3 (by decide) rfl
  · have nw : ∀ k3 x3, f k3 = some x3 → k3 ≠ k → pb ≠ x3.1 ∧ ∀ g, itemB w' pb = some g → itemB w' x3.1 ≠ some g := fun k3 x3 h3 hne3 => by
      obtain ⟨d1, d2⟩ := h.apart k k3 _ _ hk h3 (Ne.symm hne3)
      obtain ⟨_, o2, _, _⟩ := h.rel k3 x3 h3
      refine ⟨d1, fun g hg => ?_⟩
      rw [(oth k3 x3 h3 hne3).2]
      rcases e.itm with q | ⟨g', q, hg'⟩
      · rw [q] at hg
        exact d2 g hg
      · rw [q] at hg
        cases hg
        intro q2
        have := (o2.item_ty q2).1.lt
        omega
    unfold updF at hx' hx''
    split at hx' <;> split at hx''
    · rename_i e1 e2
      exact absurd (e1.trans e2.symm) hne
    · rename_i e1 e2
      cases hx'
      exact nw k'' x'' hx'' e2
    · rename_i e1 e2
      cases hx''
      obtain ⟨q1, q2⟩ := nw k' x' hx' e1
      exact ⟨Ne.symm q1, fun g hg hg2 => q2 g hg2 hg⟩
    · rename_i e1 e2
      obtain ⟨q1, q2⟩ := h.apart k' k'' x' x'' hx' hx'' hne
      rw [(oth k' x' hx' e1).2, (oth k'' x'' hx'' e2).2]
      exact ⟨q1, q2⟩
  · rcases (hS b hb).1 with q | q
    · exact ⟨_, q⟩
    · exact ⟨_, q⟩
  · rcases hb with hb | hb | ⟨k', x', hx', hb⟩
    · exact .inl (.inl hb)
    · refine .inl (.inr (.inl ?_))
      rw [← hb]
      exact (World.cell?_of_block (e.but.block bb h.ty.lt nbb)).symm
    · unfold updF at hx'
      split at hx'
      · cases hx'
        rcases hb with hb | hb
        · exact .inl (.inr (.inr ⟨k, _, hk, .inl hb⟩))
        · rcases e.itm with q | ⟨g, q, hg⟩
          · exact .inl (.inr (.inr ⟨k, _, hk, .inr (q.symm.trans hb)⟩))
          · simp only at hb
            rw [q] at hb
            cases hb
            exact .inr hg
      · rename_i hne
        rw [(oth k' x' hx' hne).2] at hb
        exact .inl (.inr (.inr ⟨k', x', hx', hb⟩))
/-- A new relation without rows. -/
theorem BaseR.fresh {w w' : World} {lo bb : Nat} {f : RelM} (h : BaseR w lo bb f) (k : ByteArray) {ar : Nat} (e : Ext w w') {pb : Nat} (hpb : w.heap.size ≤ pb) (h1 : RowsV w' (pb + 1) pb ar []) (h2 : Ty w' pb 99) (h3 : itemB w' pb = none) (har : ar ≤ 64) : BaseR w' lo bb (updF f k (pb, ar, [])) ∧ BMove bb f (updF f k (pb, ar, [])) w w' := by
  have hE := h.ext e
  have hlo : lo ≤ pb := by have := h.low; have := h.ty.lt; omega
  refine ⟨⟨hE.low, hE.ty, hE.n, hE.free, fun k' x' hx' => ?_, fun k' k'' x' x'' hx' hx'' hne => ?_⟩, (ButS.refl _ _).ext e, fun b hb => ?_⟩
  · unfold updF at hx'
    split at hx'
    · cases hx'
      exact ⟨hlo, h1, h2, RelOk.nil har⟩
    · exact hE.rel k' x' hx'
  · have old : ∀ k3 x3, f k3 = some x3 → x3.1 < pb := fun k3 x3 hx3 => by
      have := (h.rel k3 x3 hx3).2.2.1.lt
      omega
    unfold updF at hx' hx''
    split at hx' <;> split at hx''
    · rename_i e1 e2
      exact absurd (e1.trans e2.symm) hne
    · cases hx'
      refine ⟨fun q => ?_, fun g hg => ?_⟩
      · have := old _ _ hx''
        simp only at q
        omega
      · simp only at hg
        rw [h3] at hg
        cases hg
    · cases hx''
      refine ⟨fun q => ?_, fun g _ hg => ?_⟩
      · have := old _ _ hx'
        simp only at q
        omega
      · simp only at hg
        rw [h3] at hg
        cases hg
    · exact hE.apart k' k'' x' x'' hx' hx'' hne
  · rcases hb with hb | hb | ⟨k', x', hx', hb⟩
    · exact .inl (.inl hb)
    · exact (h.ext_mv e).own b (.inr (.inl hb))
    · unfold updF at hx'
      split at hx'
      · cases hx'
        rcases hb with rfl | hb
        · exact .inr hpb
        · simp only at hb
          rw [h3] at hb
          cases hb
      · exact (h.ext_mv e).own b (.inr (.inr ⟨k', x', hx', hb⟩))
end Go.Proofs.YtpgbenijjodoeaaGreat
