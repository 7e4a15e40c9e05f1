/- The walk of a set's Add. -/
import Derived.Test.YthjpfplebbnbpaaGreatIns
namespace Go.Proofs.YthjpfplebbnbpaaGreat
open Go.ChangeShapes Go.WideShapes Go.ChangeAt Go.RowKit
theorem InsPost.weak {base : Nat} {vs : List Value} {u : Value} {n i : Nat} {w : World} {e : Ending} {w' : World} (h : InsPost base vs u n i none w e w') (row : Option Nat) : InsPost base vs u n i row w e w' := by
  obtain ⟨g, c', h1, h2, h3⟩ := h
  exact ⟨g, c', h1, h2, ⟨h3.os, h3.tape, h3.output, h3.size, fun k hk _ => h3.block k hk (by simp)⟩⟩
theorem c_insert (vs : List Value) (u : Value) (a : Option Addr) (n c i gv : Nat) (base : Nat) (w : World) (hown : w.ownsRow base 46 1 (.slice a n c) n vs) (h1v : ∀ v ∈ vs, v.oneCell' = true) (hin : i ≤ n) (hgv : w.heap[gv]? = some (.cells #[u] 46 (0, 0))) (hne : ∀ b, (Value.slice a n c).ownBlock = some b → gv ≠ b) (hu : u.oneCell' = true) (hn : n ≤ 1000000) (hb : base ≤ w.heap.size) :
    Calls Tryz.prog 86 #[.slice a n c, .int .i64 (i : Int), .slice (some ⟨gv, 0, none⟩) 1 1] w (InsPost base vs u n i (Value.slice a n c).ownBlock w) := by
  have hvv : w.cell? ⟨gv, 0, none⟩ = some u := by simp [World.cell?, hgv]
  by_cases he : i = n
  · subst he
    exact c_insert_end vs u a i c gv base w hown hvv hu hn hb
  · obtain ⟨g, p, e, _⟩ := own_formS hown (by omega)
    cases e
    by_cases hr : n + 1 ≤ c
    · exact c_insert_shift vs u g n c i gv base w hown h1v (by omega) hr hgv (hne g rfl) hu hn
    · exact (c_insert_grow vs u g n c i gv base w hown h1v (by omega) (by omega) hvv hu hn hb).mono fun e w' h => h.weak _
theorem rows_put {rs : List (List ByteArray)} {vs : List Value} {P : List ByteArray → Value → Prop} (hl : vs.length = rs.length) (h : ∀ (k : Nat) (r : List ByteArray) (v : Value), rs[k]? = some r → vs[k]? = some v → P r v) {t : List ByteArray} {u : Value} (hu : P t u) {i : Nat} (hi : i ≤ rs.length) :
    ∀ (k : Nat) (r : List ByteArray) (v : Value), (rs.take i ++ t :: rs.drop i)[k]? = some r → (vs.take i ++ u :: vs.drop i)[k]? = some v → P r v := by
  intro k r v hr hv
  have l1 : (rs.take i).length = i := by rw [List.length_take]; omega
  have l2 : (vs.take i).length = i := by rw [List.length_take]; omega
  rcases Nat.lt_trichotomy k i with hk | rfl | hk
  · rw [List.getElem?_append_left (by omega), List.getElem?_take, if_pos hk] at hr hv
    exact h k r v hr hv
  · rw [List.getElem?_append_right (by omega), l1, Nat.sub_self] at hr
    rw [List.getElem?_append_right (by omega), l2, Nat.sub_self] at hv
    cases hr
    cases hv
    exact hu
  · rw [List.getElem?_append_right (by omega), l1, show k - i = (k - i - 1) + 1 by omega, List.getElem?_cons_succ, List.getElem?_drop] at hr
    rw [List.getElem?_append_right (by omega), l2, show k - i = (k - i - 1) + 1 by omega, List.getElem?_cons_succ, List.getElem?_drop] at hv
    exact h _ r v hr hv
theorem RowsV.ext {w w' : World} {lo pb ar : Nat} {rs : List (List ByteArray)} (h : RowsV w lo pb ar rs) (e : Ext w w') : RowsV w' lo pb ar rs := by
  obtain ⟨a, c, vs, h1, h2, h3⟩ := h.row
  exact ⟨h.lt, keep e h.c0, keep e h.c2, (e.frozen (p := ⟨pb, 1, none⟩) (World.block_lt_of_cell? w ⟨pb, 1, none⟩ h1)).trans h.free, a, c, vs, keep e h1, up_ext h2 e, fun i r v hr hv => up_ext (h3 i r v hr hv) e⟩
def AddPost (lo pb ar : Nat) (rs : List (List ByteArray)) (t : List ByteArray) (w : World) (e : Ending) (w' : World) : Prop := e = .returned (.bool (!foundB rs t)) ∧ RowsV w' lo pb ar (putRow rs t) ∧ ButS (fun b => b = pb ∨ lo ≤ b) w w'
theorem RowsV.put {w w' : World} {lo pb ar : Nat} {rs : List (List ByteArray)} {t : List ByteArray} {a : Option Addr} {c : Nat} {vs : List Value} {u : Value} {o : Obj} {g c' : Nat} (h : RowsV w lo pb ar rs) (h1 : w.cell? ⟨pb, 1, none⟩ = some (.slice a rs.length c)) (h2 : w.ownsRow lo 46 1 (.slice a rs.length c) rs.length vs) (h3 : ∀ (i : Nat) (r : List ByteArray) (v : Value), rs[i]? = some r → vs[i]? = some v → w.ownsRow lo 9 1 v r.length (r.map Value.string)) (hu : w.ownsRow lo 9 1 u t.length (t.map Value.string)) (hf : ¬ foundB rs t = true) (hlow : lowB rs t ≤ rs.length)
    (r1 : w'.ownsRow lo 46 1 (.slice (some ⟨g, 0, none⟩) (rs.length + 1) c') (rs.length + 1) (vs.take (lowB rs t) ++ u :: vs.drop (lowB rs t))) (r2 : (w.alloc o).grownBy w' (Value.slice a rs.length c).ownBlock) :
    w'.cell? ⟨pb, 1, none⟩ = some (.slice a rs.length c) ∧ w'.frozen? ⟨pb, 1, none⟩ = false ∧ RowsV (w'.setCell ⟨pb, 1, none⟩ (.slice (some ⟨g, 0, none⟩) (rs.length + 1) c')) lo pb ar (putRow rs t) ∧ ButS (fun b => b = pb ∨ lo ≤ b) w (w'.setCell ⟨pb, 1, none⟩ (.slice (some ⟨g, 0, none⟩) (rs.length + 1) c')) := by
  have hpw : pb < w.heap.size := World.block_lt_of_cell? w ⟨pb, 1, none⟩ h1
  have hlen : vs.length = rs.length := by have := h2.1; omega
  have hblk : w'.heap[pb]? = w.heap[pb]? := (r2.block pb (by simp; omega) (fun e => by
    have := (h2.lt pb e.symm).1
    have := h.lt
    omega)).trans ((ext_alloc (Below.refl _ w : Ext w w) o).block pb hpw)
  have cellp : ∀ k v, w.cell? ⟨pb, k, none⟩ = some v → w'.cell? ⟨pb, k, none⟩ = some v := fun k v hk => by
    rw [← hk]
    exact World.cell?_of_block hblk
  have hfz : w'.frozen? ⟨pb, 1, none⟩ = false := by
    rw [← h.free]
    unfold World.frozen?
    simp only
    rw [hblk]
  have str : ∀ {v : Value} {n : Nat} {xs : List Value}, w.ownsRow lo 9 1 v n xs → (w'.setCell ⟨pb, 1, none⟩ (.slice (some ⟨g, 0, none⟩) (rs.length + 1) c')).ownsRow lo 9 1 v n xs := fun hh => ownsRow_setCell_below ((hh.alloc o).kept r2 (own_apart (hh.alloc o) (h2.alloc o) (by decide))) (a := ⟨pb, 1, none⟩) h.lt _
  have hput : putRow rs t = rs.take (lowB rs t) ++ t :: rs.drop (lowB rs t) := by unfold putRow; rw [if_neg hf]
  have hpl : (putRow rs t).length = rs.length + 1 := by rw [hput]; simp; omega
  refine ⟨cellp 1 _ h1, hfz, ⟨h.lt, ?_, ?_, ?_, some ⟨g, 0, none⟩, c', vs.take (lowB rs t) ++ u :: vs.drop (lowB rs t), ?_, ?_, ?_⟩, ?_⟩
  · rw [World.cell?_setCell_other _ _ _ _ (by simp)]
    exact cellp 0 _ h.c0
  · rw [World.cell?_setCell_other _ _ _ _ (by simp)]
    exact cellp 2 _ h.c2
  · rw [World.frozen?_setCell]
    exact hfz
  · rw [hpl]
    exact World.cell?_setCell_same _ _ _ (cellp 1 _ h1)
  · rw [hpl]
    exact ownsRow_setCell_below r1 (a := ⟨pb, 1, none⟩) h.lt _
  · rw [hput]
    exact rows_put hlen (fun i r v hr hv => str (h3 i r v hr hv)) (str hu) hlow
  · exact (((ButS.refl _ w).alloc o).grown r2 (fun b e => .inl (.inr (h2.lt b e).1))).set (.inl (.inl rfl)) _ _
set_option maxRecDepth 100000 in
set_option maxHeartbeats 4000000 in
theorem c_addS (lo pb ar : Nat) (rs : List (List ByteArray)) (t : List ByteArray) (a : Option Addr) (c : Nat) (w : World) (h : RowsV w lo pb ar rs) (hr : Rising rs) (hu : w.ownsRow lo 9 1 (.slice a t.length c) t.length (t.map Value.string)) (hn : rs.length ≤ 65536) (hlo : lo ≤ w.heap.size) :
    Calls Tryz.prog 69 #[.pointer (some ⟨pb, 0, none⟩), .slice a t.length c] w (AddPost lo pb ar rs t w) := by
  obtain ⟨ai, ci, h1, hit⟩ := h.items (by unfold maxLen; omega)
  obtain ⟨a0, c0, vs, h1', h2, h3⟩ := h.row
  rw [h1] at h1'
  cases h1'
  have FIND := Lib.hid (c_find rs t pb ai rs.length ci a t.length c w h.c0 h1 hit (own_strs hu (own_len hu).1) (hr.cut t) (by omega))
  have hlow := (low_spec hr t).1
  have h1v : ∀ v ∈ vs, v.oneCell' = true := fun v hv => by
    obtain ⟨k, hk⟩ := List.mem_iff_getElem?.1 hv
    have hlen : vs.length = rs.length := by have := h2.1; omega
    have hkl := (List.getElem?_eq_some_iff.1 hk).1
    obtain ⟨r, hrr⟩ : ∃ r, rs[k]? = some r := ⟨_, List.getElem?_eq_getElem (by omega)⟩
    obtain ⟨_, _, e, _⟩ := own_form (h3 k r v hrr hk)
    rw [e]
    rfl
  have H := Lib.hid h
  have H2 := Lib.hid h2
  have H3 := Lib.hid h3
  have HU := Lib.hid hu
  have HV := Lib.hid h1v
  have HLOW := Lib.hid hlow
  have HLO := Lib.hid hlo
  clear hit hr hu h1v hlo h2 h3
  obtain ⟨f, hf⟩ : ∃ f, foundB rs t = f := ⟨_, rfl⟩
  have HF := Lib.hid hf
  rw [hf] at FIND
  obtain ⟨i, hi⟩ : ∃ i, lowB rs t = i := ⟨_, rfl⟩
  have HI := Lib.hid hi
  rw [hi] at FIND hlow
  clear hf hi
  have hpw : pb < w.heap.size := World.block_lt_of_cell? w ⟨pb, 1, none⟩ h1
  cases f with
  | true =>
    clear h h1
    go_enter Tryz.func69, Tryz.ntmps69
    go_wp2_with (go_at_call 80; (with_reducible refine FIND.out.mono ?_); rintro e w1 ⟨rfl, hw1⟩; obtain rfl := hw1.symm)
    go_returns
    exact ⟨by rw [HF.out]; rfl, by unfold putRow; rw [if_pos HF.out]; exact H.out, ButS.refl _ _⟩
  | false =>
    have hgv : (w.alloc (.cells #[.slice a t.length c] 46)).heap[w.heap.size]? = some (.cells #[.slice a t.length c] 46 (0, 0)) := heap_alloc_new w _
    have INS := Lib.hid (c_insert vs (.slice a t.length c) ai rs.length ci i w.heap.size lo (w.alloc (.cells #[.slice a t.length c] 46)) (H2.out.alloc _) HV.out hlow hgv (fun b e => by have := (H2.out.lt b e).2; omega) rfl (by omega) (size_alloc_le HLO.out))
    have fr := h.free
    clear h hgv
    go_enter Tryz.func69, Tryz.ntmps69
    go_wp2_with (first
      | (go_at_call 80; (with_reducible refine FIND.out.mono ?_); rintro e w1 ⟨rfl, hw1⟩; obtain rfl := hw1.symm)
      | (go_at_call 86; (with_reducible refine INS.out.mono ?_); rintro e w1 ⟨g7, p7, rfl, r1, r2⟩; rw [← HI.out] at r1; obtain ⟨q1, q2, q3, q4⟩ := H.out.put h1 H2.out H3.out HU.out (by rw [HF.out]; simp) HLOW.out r1 r2))
    go_returns
    exact ⟨by rw [HF.out]; rfl, q3, q4⟩
end Go.Proofs.YthjpfplebbnbpaaGreat
